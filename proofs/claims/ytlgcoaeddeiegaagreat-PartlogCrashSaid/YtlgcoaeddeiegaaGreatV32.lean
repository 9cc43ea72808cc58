/- The texts Pzu, Pm, Pzv in one. -/
import Derived.Test.YtlgcoaeddeiegaaGreatV13
import Derived.Test.YtlgcoaeddeiegaaGreatV8
import Derived.WalkKit
import Derived.Test.YtlgcoaeddeiegaaGreatV29
/- law11: scripts; vast. -/
namespace Go.Proofs.YtlgcoaeddeiegaaGreat
open Go Go.Maps Go.RowKit
attribute [local go_sem] Oper.semAt_some

theorem readAt_cellP {w : World} {size n c g off : Nat} {xs : List Value} (h : readAt w size (.slice (some ⟨g, off, none⟩) n c) n xs) {i : Nat} {u : Value} (hu : xs[i]? = some u) : w.cell? ⟨g, off + i, none⟩ = some u := by
  have := h.cells (g := g) (off := off) rfl i u hu
  simpa [Go.WideShapes.add_plain] using this
structure StpV where
  kind : Int
  most : Int
  frm : Int
  unt : Int
  rv : Value
  recs : List Rc
  fv : Value
  pv : Value
  nm : ByteArray
  bv : Value
  nf : Nat
  np : Nat
  nb : Nat
def StpV.cells (x : StpV) : List Value := [.int .i64 x.kind, .int .i64 x.most, .int .i64 x.frm, .int .i64 x.unt, x.rv, x.fv, x.pv, .string x.nm, x.bv]
structure StpOk (w : World) (x : StpV) : Prop where
  recs : RecsAt w x.rv x.recs
  rsl : ∃ oa c, x.rv = .slice oa x.recs.length c
  fsl : ∃ oa c, x.fv = .slice oa x.nf c
  psl : ∃ oa c, x.pv = .slice oa x.np c
  bsl : ∃ oa c, x.bv = .slice oa x.nb c
  lens : x.recs.length ≤ 9223372036854775807 ∧ x.nf ≤ 9223372036854775807 ∧ x.np ≤ 9223372036854775807 ∧ x.nb ≤ 9223372036854775807
structure StepsAt (w : World) (v : Value) (L : List StpV) : Prop where
  row : readAt w 9 v L.length (L.flatMap StpV.cells)
  each : ∀ x ∈ L, StpOk w x
  sl : ∃ oa c, v = .slice oa L.length c
  len : L.length ≤ 9223372036854775807
theorem StpOk.below {w w' : World} {x : StpV} (h : StpOk w x) (hb : Below w.heap.size w w') : StpOk w' x := { h with recs := h.recs.below hb }
theorem StepsAt.below {w w' : World} {v : Value} {L : List StpV} (h : StepsAt w v L) (hb : Below w.heap.size w w') : StepsAt w' v L :=
  { h with row := h.row.kept (fun k hk _ _ => hb.block k hk), each := fun x hx => (h.each x hx).below hb }
def SmallS (L : List StpV) : Prop := L.length ≤ 60 ∧ ∀ x ∈ L, largeT 30 x.recs = false ∧ x.nb ≤ 2000 ∧ x.np ≤ 100 ∧ x.nf ≤ 30
theorem StepsAt.at {w : World} {oa : Option Addr} {n c t : Nat} {L : List StpV} (h : StepsAt w (.slice oa n c) L) (hn : L.length = n) (ht : t < L.length) : ∃ g off, oa = some ⟨g, off, none⟩ ∧ ∀ i, i < 9 → ∀ u, L[t].cells[i]? = some u → w.cell? ⟨g, off + (t * 9 + i), none⟩ = some u := by
  subst hn
  obtain ⟨g, off, rfl⟩ := h.row.addr (by omega)
  exact ⟨g, off, rfl, fun i hi u hu => readAt_cellP h.row (by rw [flat_get (f := StpV.cells) (m := 9) (fun _ => rfl) L t ht i hi, hu])⟩
def VastIs (L : List StpV) (w : World) (e : Ending) (w' : World) : Prop := ∃ b, e = .returned (.bool b) ∧ w' = w ∧ (b = false → SmallS L)
set_option maxRecDepth 100000 in
set_option maxHeartbeats 4000000 in
theorem vast11_b {w : World} {oa : Option Addr} {n c : Nat} {L : List StpV} (h : StepsAt w (.slice oa n c) L) (hn : L.length = n) :
    Calls Tryz.prog 12 #[.slice oa n c] w fun e w' => VastIs L w e w' := by
  have H := Lib.hid (And.intro h hn)
  have hnL : n ≤ 9223372036854775807 := by rw [← hn]; exact h.len
  clear h hn
  go_enter Tryz.func12, Tryz.ntmps12
  by_cases hbig : 60 < n
  · have hd : decide ((60 : Int) < (n : Int)) = true := decide_eq_true (by omega)
    have hd' : decide (60 < n) = true := decide_eq_true hbig
    go_wp2_with fail
    go_ret
    exact ⟨true, rfl, rfl, fun h => by cases h⟩
  have hd : decide ((60 : Int) < (n : Int)) = false := decide_eq_false (by omega)
  have hd' : decide (60 < n) = false := decide_eq_false hbig
  go_wp2_with fail
  go_loopw [3] (fun i wr => ∃ j : Nat, i = .int .i64 (j : Int) ∧ j ≤ n ∧ Hid (wr = w ∧ ∀ k (hk : k < L.length), k < j → largeT 30 L[k].recs = false ∧ L[k].nb ≤ 2000 ∧ L[k].np ≤ 100 ∧ L[k].nf ≤ 30)) (fun i _ => n - (intOf i).toNat)
  case atStart => exact ⟨0, rfl, Nat.zero_le _, Lib.hid ⟨rfl, fun k _ hk => absurd hk (Nat.not_lt_zero _)⟩⟩
  case round =>
    obtain ⟨j, rfl, hj, HI⟩ := hrel
    obtain rfl := HI.out.1.symm
    by_cases hlt : j < n
    · have hjl : j < L.length := by rw [H.out.2]; exact hlt
      obtain ⟨g, off, rfl, hcell⟩ := H.out.1.at H.out.2 hjl
      obtain ⟨x, hx⟩ : ∃ x, x = L[j] := ⟨_, rfl⟩
      rw [← hx] at hcell
      have hok := H.out.1.each x (by rw [hx]; exact List.getElem_mem _)
      obtain ⟨o1, e1, h1⟩ := hok.rsl
      obtain ⟨o2, e2, h2⟩ := hok.fsl
      obtain ⟨o3, e3, h3⟩ := hok.psl
      obtain ⟨o4, e4, h4⟩ := hok.bsl
      have k4 : w.cell? ⟨g, off + j * 9 + 4, none⟩ = some (.slice o1 x.recs.length e1) := hcell 4 (by omega) _ (by rw [← h1]; rfl)
      have k5 : w.cell? ⟨g, off + j * 9 + 5, none⟩ = some (.slice o2 x.nf e2) := hcell 5 (by omega) _ (by rw [← h2]; rfl)
      have k6 : w.cell? ⟨g, off + j * 9 + 6, none⟩ = some (.slice o3 x.np e3) := hcell 6 (by omega) _ (by rw [← h3]; rfl)
      have k8 : w.cell? ⟨g, off + j * 9 + 8, none⟩ = some (.slice o4 x.nb e4) := hcell 8 (by omega) _ (by rw [← h4]; rfl)
      obtain ⟨rs, hrs, hri⟩ := hok.recs
      rw [h1] at hri
      have hll := hok.lens
      have hlg := large_b (most := 30) hrs (n := x.recs.length) (by rw [← hrs, List.length_map]) hri (by omega) (by unfold maxLen; omega)
      obtain ⟨lg, hlg2⟩ : ∃ b, largeT 30 x.recs = b := ⟨_, rfl⟩
      rw [hlg2] at hlg
      have HLG := Lib.hid hlg
      have HX := Lib.hid (And.intro hx (And.intro hlg2 hll))
      clear hcell hok h1 h2 h3 h4 hrs hri hlg hlg2 hx hll
      go_wp2_with fail
      refine HLG.out.mono ?_
      rintro e V ⟨rfl, hV⟩
      obtain rfl := hV.symm
      clear hV
      cases lg
      case true =>
        go_wp2_with fail
        go_ret
        exact ⟨true, rfl, rfl, fun h => by cases h⟩
      case false =>
        by_cases hA : 2000 < x.nb
        · have dA : decide ((2000 : Int) < (x.nb : Int)) = true := decide_eq_true (by omega)
          have dA' : decide (2000 < x.nb) = true := decide_eq_true hA
          go_wp2_with fail
          go_ret
          exact ⟨true, rfl, rfl, fun h => by cases h⟩
        have dA : decide ((2000 : Int) < (x.nb : Int)) = false := decide_eq_false (by omega)
        have dA' : decide (2000 < x.nb) = false := decide_eq_false hA
        by_cases hB : 100 < x.np
        · have dB : decide ((100 : Int) < (x.np : Int)) = true := decide_eq_true (by omega)
          have dB' : decide (100 < x.np) = true := decide_eq_true hB
          go_wp2_with fail
          go_ret
          exact ⟨true, rfl, rfl, fun h => by cases h⟩
        have dB : decide ((100 : Int) < (x.np : Int)) = false := decide_eq_false (by omega)
        have dB' : decide (100 < x.np) = false := decide_eq_false hB
        by_cases hC : 30 < x.nf
        · have dC : decide ((30 : Int) < (x.nf : Int)) = true := decide_eq_true (by omega)
          have dC' : decide (30 < x.nf) = true := decide_eq_true hC
          go_wp2_with fail
          go_ret
          exact ⟨true, rfl, rfl, fun h => by cases h⟩
        have dC : decide ((30 : Int) < (x.nf : Int)) = false := decide_eq_false (by omega)
        have dC' : decide (30 < x.nf) = false := decide_eq_false hC
        go_wp2_with fail
        refine ⟨⟨j + 1, by simp, by omega, Lib.hid ⟨by trivial, fun k hk hkj => ?_⟩⟩, by simp [intOf]; omega⟩
        by_cases hkj2 : k < j
        · exact HI.out.2 k hk hkj2
        · obtain rfl : k = j := by omega
          rw [← HX.out.1]
          exact ⟨HX.out.2.1, by omega, by omega, by omega⟩
    · obtain rfl : j = n := by omega
      go_wp2_with fail
      go_ret
      exact ⟨false, rfl, rfl, fun _ => ⟨by have := H.out.2; omega, fun x hx => by
        obtain ⟨k, hk, rfl⟩ := List.getElem_of_mem hx
        exact HI.out.2 k hk (by have := H.out.2; omega)⟩⟩
end Go.Proofs.YtlgcoaeddeiegaaGreat
/- A log of segments, plainly: how it rolls. -/
namespace Go.Proofs.YtlgcoaeddeiegaaGreat
open Go

section
variable {β : Type} (sz cn : β → Nat)
def szs (l : List β) : Nat := (l.map sz).sum
def cns (l : List β) : Nat := (l.map cn).sum
def putL (roll : Nat) (b : β) : List (Nat × List β) → List (Nat × List β)
  | [] => []
  | [(n, bs)] => if roll ≤ szs sz bs then [(n, bs), (n + cns cn bs, [b])] else [(n, bs ++ [b])]
  | s :: t :: r => s :: putL roll b (t :: r)
def Rolls (roll : Nat) : Nat → Bool → List (Nat × List β) → Prop
  | _, _, [] => False
  | bn, f, [(n, bs)] => n = bn ∧ (bs = [] → f = true) ∧ ∀ i l, bs = i ++ [l] → szs sz i < roll
  | bn, f, (n, bs) :: t :: r => n = bn ∧ (bs = [] → f = true) ∧ (∀ i l, bs = i ++ [l] → szs sz i < roll) ∧ roll ≤ szs sz bs ∧ Rolls roll (bn + cns cn bs) false (t :: r)
theorem Rolls.ne {roll bn : Nat} {f : Bool} {segs : List (Nat × List β)} (h : Rolls sz cn roll bn f segs) : segs ≠ [] := fun e => by
  subst e
  exact h
theorem Rolls.put {roll : Nat} (hr : 1 ≤ roll) (b : β) : ∀ (segs : List (Nat × List β)) (bn : Nat) (f : Bool), Rolls sz cn roll bn f segs → Rolls sz cn roll bn f (putL sz cn roll b segs)
  | [], _, _, h => h
  | [(n, bs)], bn, f, h => by
    obtain ⟨rfl, h2, h3⟩ := h
    unfold putL
    by_cases h4 : roll ≤ szs sz bs
    · rw [if_pos h4]
      refine ⟨rfl, h2, h3, h4, ?_⟩
      show (n + cns cn bs = n + cns cn bs) ∧ ([b] = [] → false = true) ∧ _
      refine ⟨rfl, fun e => (by simp at e), fun i l e => ?_⟩
      have : i = [] := by
        cases i with
        | nil => rfl
        | cons a t =>
          have := congrArg List.length e
          simp at this
      subst this
      show (0 : Nat) < roll
      omega
    · rw [if_neg h4]
      refine ⟨rfl, fun e => by simp at e, fun i l e => ?_⟩
      obtain ⟨rfl, -⟩ := List.append_inj' e rfl
      omega
  | s :: t :: r, bn, f, h => by
    obtain ⟨n, bs⟩ := s
    obtain ⟨rfl, h2, h3, h4, h5⟩ := h
    have ih := Rolls.put hr b (t :: r) _ _ h5
    unfold putL
    cases hp : putL sz cn roll b (t :: r) with
    | nil =>
      rw [hp] at ih
      exact ih.elim
    | cons u v =>
      rw [hp] at ih
      exact ⟨rfl, h2, h3, h4, ih⟩
theorem putL_all (roll : Nat) (b : β) : ∀ segs : List (Nat × List β), segs ≠ [] → (putL sz cn roll b segs).flatMap (·.2) = segs.flatMap (·.2) ++ [b]
  | [], h => absurd rfl h
  | [(n, bs)], _ => by
    unfold putL
    split <;> simp
  | s :: t :: r, _ => by
    unfold putL
    rw [List.flatMap_cons, putL_all roll b (t :: r) (by simp), List.flatMap_cons (x := s), List.append_assoc]
def endL : Nat → List (Nat × List β) → Nat
  | bn, [] => bn
  | _, (n, bs) :: r => endL (n + cns cn bs) r
theorem endL_all {roll : Nat} : ∀ (segs : List (Nat × List β)) (bn : Nat) (f : Bool), Rolls sz cn roll bn f segs → endL cn bn segs = bn + cns cn (segs.flatMap (·.2))
  | [], _, _, h => h.elim
  | [(n, bs)], bn, f, h => by
    obtain ⟨rfl, -, -⟩ := h
    simp [endL]
  | s :: t :: r, bn, f, h => by
    obtain ⟨n, bs⟩ := s
    obtain ⟨rfl, -, -, -, h5⟩ := h
    show endL cn (n + cns cn bs) (t :: r) = _
    rw [endL_all (t :: r) _ _ h5, List.flatMap_cons]
    simp [cns]
    omega
end
end Go.Proofs.YtlgcoaeddeiegaaGreat
/- PartlogRolls, plainly: what any appends make of a log without fates. -/
namespace Go.Proofs.YtlgcoaeddeiegaaGreat
open Go Go.RowKit

def bSize (b : Bat) : Nat := rcsSize b.2
def bCnt (b : Bat) : Nat := b.2.length
theorem szs_bats (bs : List Bat) : szs bSize bs = (batsT bs).length := by
  unfold szs batsT
  rw [List.length_flatMap]
  congr 1
  exact List.map_congr_left (fun b _ => (batchT_len b.1 b.2).symm)
theorem cns_bats (bs : List Bat) : cns bCnt bs = cntT bs := rfl
theorem putL_snoc {roll : Nat} {b : Bat} : ∀ (A : List (Nat × List Bat)) (n : Nat) (bs : List Bat), putL bSize bCnt roll b (A ++ [(n, bs)]) = A ++ (if roll ≤ szs bSize bs then [(n, bs), (n + cns bCnt bs, [b])] else [(n, bs ++ [b])])
  | [], n, bs => by
    show putL bSize bCnt roll b [(n, bs)] = _
    unfold putL
    split <;> rfl
  | [s], n, bs => by
    show putL bSize bCnt roll b (s :: (n, bs) :: []) = _
    rw [putL]
    have := putL_snoc (roll := roll) (b := b) [] n bs
    rw [List.nil_append] at this
    rw [this]
    rfl
  | s :: t :: A, n, bs => by
    show putL bSize bCnt roll b (s :: t :: (A ++ [(n, bs)])) = _
    rw [putL]
    have := putL_snoc (roll := roll) (b := b) (t :: A) n bs
    rw [List.cons_append] at this
    rw [this]
    rfl
theorem putT_segs (roll : Nat) (g : Lg) (l : List Rc) : (g.putT roll l).segs = putL bSize bCnt roll ((g.fin : Int), l) g.segs := by
  unfold Lg.putT
  have h := putL_snoc (roll := roll) (b := ((g.fin : Int), l)) g.ini g.lb g.lbs
  rw [show g.ini ++ [(g.lb, g.lbs)] = g.segs from rfl] at h
  rw [h, szs_bats]
  split
  · show g.segs ++ [(g.fin, [((g.fin : Int), l)])] = _
    unfold Lg.segs Lg.fin
    rw [cns_bats]
    simp
  · rfl
structure RollI (roll : Nat) (g : Lg) (d : Dk) (R : List Rc) (t : Nat) : Prop where
  calm : Calm pName g d
  rolls : Rolls bSize bCnt roll 0 true g.segs
  recs : g.recs = R
  fin : g.fin = R.length
  few : g.segs.length ≤ t + 1
  small : R.length ≤ 30 * t
theorem endL_snoc : ∀ (A : List (Nat × List Bat)) (k n : Nat) (bs : List Bat), endL bCnt k (A ++ [(n, bs)]) = n + cns bCnt bs
  | [], _, _, _ => rfl
  | (m, cs) :: A, _, n, bs => endL_snoc A (m + cns bCnt cs) n bs
theorem cns_recs : ∀ bs : List Bat, cns bCnt bs = (recsT bs).length := fun bs => by rw [cns_bats, recsT_len]
theorem flat_recs (L : List (Nat × List Bat)) : (L.flatMap fun s => recsT s.2) = recsT (L.flatMap (·.2)) := by
  induction L with
  | nil => rfl
  | cons s r ih => rw [List.flatMap_cons, List.flatMap_cons, recsT_append, ih]
theorem rolls_fin {roll : Nat} {g : Lg} (h : Rolls bSize bCnt roll 0 true g.segs) : g.fin = g.recs.length := by
  have h1 := endL_all bSize bCnt g.segs 0 true h
  have h2 := endL_snoc g.ini 0 g.lb g.lbs
  rw [show g.ini ++ [(g.lb, g.lbs)] = g.segs from rfl] at h2
  rw [h2] at h1
  unfold Lg.recs
  rw [flat_recs, ← cns_recs]
  show g.lb + cntT g.lbs = _
  rw [← cns_bats, h1]
  omega
theorem RollI.zero {roll : Nat} : RollI roll Lg.zero (Dk.new.first pName) [] 0 := by
  obtain ⟨-, -, c0⟩ := first_calm pName_ok (d := Dk.new) rfl rfl
  refine ⟨c0, ?_, rfl, rfl, Nat.le_refl _, Nat.le_refl _⟩
  show (0 = 0) ∧ ([] = [] → true = true) ∧ _
  exact ⟨rfl, fun _ => rfl, fun i l e => by
    have h0 : ([] : List Bat) = i ++ [l] := e
    simp at h0⟩
theorem RollI.put {roll : Nat} (hr : 1 ≤ roll ∧ roll ≤ 16711680) {g : Lg} {d : Dk} {R l : List Rc} {t : Nat} (h : RollI roll g d R t) (ht : t < 60) (hf : (fitsT l).2 = 0) (hl : l.length ≤ 30) :
    g.appendT pName roll d l = (0, g.putT roll l, (g.appendT pName roll d l).2.2) ∧ RollI roll (g.putT roll l) (g.appendT pName roll d l).2.2 (R ++ l) (t + 1) := by
  have h1 := h.few
  have h2 := h.small
  have h3 := h.fin
  obtain ⟨a1, a2⟩ := appendT_calm pName_ok (roll := roll) (l := l) h.calm hr (by omega) hf (by omega)
  have hro : Rolls bSize bCnt roll 0 true (g.putT roll l).segs := by
    rw [putT_segs]
    exact h.rolls.put bSize bCnt hr.1 _ _ _ _
  have hrec : (g.putT roll l).recs = R ++ l := by
    rw [← h.recs]
    unfold Lg.recs
    rw [flat_recs, flat_recs, putT_segs, putL_all bSize bCnt roll _ _ (by unfold Lg.segs; simp), recsT_append]
    congr 1
    unfold recsT
    simp
  refine ⟨a1, a2, hro, hrec, by rw [rolls_fin hro, hrec], ?_, by rw [List.length_append]; omega⟩
  unfold Lg.putT
  split
  · show (g.segs ++ [_]).length ≤ _
    rw [List.length_append, List.length_singleton]
    omega
  · show (g.ini ++ [_]).length ≤ _
    rw [List.length_append, List.length_singleton]
    unfold Lg.segs at h1
    rw [List.length_append, List.length_singleton] at h1
    omega
theorem RollI.not {roll : Nat} {g : Lg} {d : Dk} {R l : List Rc} {t : Nat} (h : RollI roll g d R t) (hf : (fitsT l).2 ≠ 0) : g.appendT pName roll d l = ((fitsT l).2, g, d) ∧ RollI roll g d R (t + 1) := by
  refine ⟨?_, ⟨h.calm, h.rolls, h.recs, h.fin, by have := h.few; omega, by have := h.small; omega⟩⟩
  unfold Lg.appendT
  rw [if_neg (by rw [h.calm.alive]; simp), if_pos hf]
end Go.Proofs.YtlgcoaeddeiegaaGreat
