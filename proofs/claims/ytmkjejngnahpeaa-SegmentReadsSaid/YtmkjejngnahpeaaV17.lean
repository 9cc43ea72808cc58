/- The texts Ec, SegD, SegE, SegF in one. -/
import Derived.Test.YtmkjejngnahpeaaV16
import Derived.Test.YtmkjejngnahpeaaV11
/- Disk: the picks of a crash: is one below zero; the next one. -/
namespace Go.Proofs.Ytmkjejngnahpeaa
open Go Go.Maps Go.RowKit

def intCells (l : List Int) : List Value := l.map fun x => .int .i64 x
def AllGe (l : List Int) : Prop := ∀ x ∈ l, 0 ≤ x
theorem AllGe.snoc {ps : List Int} {k : Nat} (h : k < ps.length) (ha : AllGe (ps.take k)) (hc : 0 ≤ ps[k]) : AllGe (ps.take (k + 1)) := by
  intro x hx
  rw [List.take_succ_eq_append_getElem h, List.mem_append, List.mem_singleton] at hx
  rcases hx with hx | rfl
  · exact ha x hx
  · exact hc
set_option maxHeartbeats 400000 in
theorem neg_b (x : Int) (w : World) : Calls Try.prog 110 #[.int .i64 x] w fun e w' => e = .returned (.bool (decide (x < 0))) ∧ w' = w := by
  go_enter Try.func110, Try.ntmps110
  go_wp2_with fail
  go_ret
  exact ⟨rfl, rfl⟩
set_option maxRecDepth 100000 in
set_option maxHeartbeats 400000 in
theorem indexInt_b {w : World} {oa : Option Addr} {n c : Nat} {ps : List Int} (hn : ps.length = n) (h : readAt w 1 (.slice oa n c) n (intCells ps)) (hm : n ≤ 1000000000) :
    Calls Try.prog 158 #[.slice oa n c, .func (.func 110) #[] #[]] w fun e w' => ∃ i : Int, e = .returned (.int .i64 i) ∧ (AllGe ps → i = -1) ∧ (¬ AllGe ps → 0 ≤ i) ∧ w' = w := by
  have H := Lib.hid h
  clear h
  go_enter Try.func158, Try.ntmps158
  go_wp2_with fail
  go_loop [8] (fun i => ∃ k : Nat, k ≤ n ∧ i = .int .i64 k ∧ AllGe (ps.take k)) (fun i => n - (intOf i).toNat)
  case atStart => exact ⟨0, Nat.zero_le _, rfl, fun x hx => by simp at hx⟩
  case round =>
    obtain ⟨k, hk, rfl, hge⟩ := hrel
    by_cases hlt : k < n
    · obtain ⟨g, off, rfl⟩ := H.out.addr (by omega)
      obtain ⟨x, hx⟩ : ∃ x, ps[k]'(by omega) = x := ⟨_, rfl⟩
      have hcx : w.cell? ⟨g, off + k, none⟩ = some (.int .i64 x) := by
        have h1 := H.out.cells (g := g) (off := off) rfl k (.int .i64 x) (by simp [intCells, ← hx])
        simpa [Go.WideShapes.add_plain] using h1
      have HX : Hid (0 ≤ x → AllGe (ps.take (k + 1))) := Lib.hid fun h0 => AllGe.snoc (by omega) hge (by rw [hx]; exact h0)
      have HY : Hid (x < 0 → ¬ AllGe ps) := Lib.hid fun h0 ha => by
        have := ha x (by rw [← hx]; exact List.getElem_mem _)
        omega
      clear hge hx
      by_cases h0 : x < 0
      · go_wp2_with (go_at_call 110; refine (neg_b _ _).mono ?_; rintro e w' ⟨rfl, rfl⟩)
        go_ret
        exact ⟨_, rfl, fun ha => absurd ha (HY.out h0), fun _ => by omega, rfl⟩
      · go_wp2_with (go_at_call 110; refine (neg_b _ _).mono ?_; rintro e w' ⟨rfl, rfl⟩)
        exact ⟨⟨k + 1, by omega, by simp, HX.out (by omega)⟩, by simp [intOf]; omega⟩
    · obtain rfl : k = n := by omega
      have HA : Hid (AllGe ps) := Lib.hid (by rwa [List.take_of_length_le (by omega)] at hge)
      clear hge
      go_wp2_with fail
      go_ret
      exact ⟨_, rfl, fun _ => rfl, fun h => absurd HA.out h, rfl⟩
set_option maxHeartbeats 400000 in
theorem containsInt_b {w : World} {oa : Option Addr} {n c : Nat} {ps : List Int} (hn : ps.length = n) (h : readAt w 1 (.slice oa n c) n (intCells ps)) (hm : n ≤ 1000000000) :
    Calls Try.prog 109 #[.slice oa n c, .func (.func 110) #[] #[]] w fun e w' => ∃ b : Bool, e = .returned (.bool b) ∧ (b = false ↔ AllGe ps) ∧ w' = w := by
  go_enter Try.func109, Try.ntmps109
  go_wp2_with fail
  refine (indexInt_b hn h hm).mono ?_
  rintro e w' ⟨i, rfl, h1, h2, rfl⟩
  obtain ⟨b, hb⟩ : ∃ b, decide ((0 : Int) ≤ i) = b := ⟨_, rfl⟩
  have HB : Hid (b = false ↔ AllGe ps) := Lib.hid (by
    rw [← hb]
    constructor
    · intro h3
      refine Classical.byContradiction fun h4 => ?_
      have := h2 h4
      simp at h3
      omega
    · intro h3
      have := h1 h3
      simp
      omega)
  clear h h1 h2
  go_wp2_with fail
  go_ret
  exact ⟨_, rfl, HB.out, rfl⟩
/-- the next pick, below 'of' -/
def nextP (of : Nat) : List Int → Nat × List Int
  | [] => (0, [])
  | p :: r => (p.toNat % of, r)
/-- block b holds the picks that are left -/
def PicksAt (w : World) (b Z : Nat) (ps : List Int) : Prop :=
  ∃ oa c, w.heap[b]? = some (.cells #[.slice oa ps.length c] 32 (0, 0)) ∧ readAt w 1 (.slice oa ps.length c) ps.length (intCells ps) ∧ (0 < ps.length → ∀ k, (Value.slice oa ps.length c).ownBlock = some k → k ≠ b ∧ k < Z)
theorem PicksAt.kept {w w' : World} {b Z : Nat} {ps : List Int} (h : PicksAt w b Z ps) (hk : ∀ k, k = b ∨ k < Z → w'.heap[k]? = w.heap[k]?) : PicksAt w' b Z ps := by
  obtain ⟨oa, c, h1, h2, h3⟩ := h
  exact ⟨oa, c, (hk b (.inl rfl)).trans h1, h2.kept (fun k _ hk' h0 => hk k (.inr (h3 h0 k hk').2)), h3⟩
theorem run_tailI (g off n cap : Nat) (W : World) : (Instr.slice 32 (.slice (some ⟨g, off, none⟩) (n + 1) cap) (some (.int .i64 1)) none none).run Try.prog W = .ok (.slice (if cap = 1 then some ⟨g, off, none⟩ else (some (⟨g, off, none⟩ : Addr)).map (·.add (1 * 1))) n (cap - 1)) W := by
  have hs : (sizeOf 3).run Try.prog W = .ok 1 W := by kernel_rfl
  have he : Try.prog.elem 32 = 3 := by kernel_rfl
  rw [run_slice_l (P := Try.prog) (w := W) 32 (some ⟨g, off, none⟩) (n + 1) cap (by rw [he]; exact Try.underlying32) .i64 1 (by omega) (by omega), he, hs]
  simp [Result.andThen, sliced]
set_option maxRecDepth 100000 in
set_option maxHeartbeats 400000 in
theorem next_b {w : World} {b Z : Nat} {ps : List Int} (h : PicksAt w b Z ps) (hge : AllGe ps) (of : Nat) (h1 : 0 < of) (h2 : of ≤ 1000000000) (hp : ∀ x ∈ ps, x ≤ 9223372036854775807) :
    Calls Try.prog 111 #[.int .i64 of, .pointer (some ⟨b, 0, none⟩)] w fun e w' => e = .returned (.int .i64 (nextP of ps).1) ∧ PicksAt w' b Z (nextP of ps).2 ∧ Only (fun k => k = b) w w' := by
  obtain ⟨oa, c, hb, hrow, hne⟩ := h
  cases ps with
  | nil =>
    have hnl : (((0 : Nat) : Int) == 0) = true := rfl
    have HB := Lib.hid (And.intro hb (And.intro hrow hne))
    have c0 : w.cell? ⟨b, 0, none⟩ = some (.slice oa 0 c) := cell_of hb rfl
    clear hb hrow hne
    go_enter Try.func111, Try.ntmps111
    go_wp2_with fail
    go_ret
    exact ⟨rfl, ⟨oa, c, HB.out.1, HB.out.2.1, HB.out.2.2⟩, Only.refl _ _⟩
  | cons p rest =>
    obtain ⟨g, off, rfl⟩ := hrow.addr (by simp)
    have f0 : w.cell? ⟨g, off, none⟩ = some (.int .i64 p) := by
      have := hrow.cells (g := g) (off := off) rfl 0 (.int .i64 p) rfl
      simpa [Go.WideShapes.add_plain] using this
    have hcap : rest.length + 1 ≤ c := hrow.cap
    have hsub := hrow.tail
    obtain ⟨oa', hfv⟩ : ∃ oa' : Option Addr, oa' = if c = 1 then some ⟨g, off, none⟩ else (some (⟨g, off, none⟩ : Addr)).map (·.add (1 * 1)) := ⟨_, rfl⟩
    obtain ⟨c', hc'⟩ : ∃ c', c' = c - 1 := ⟨_, rfl⟩
    have hown : (Value.slice oa' rest.length c').ownBlock = some g := by rw [hfv]; exact sub_own _ _ _ _ _ _
    obtain ⟨n1, hn1⟩ : ∃ n1, n1 = rest.length + 1 := ⟨_, rfl⟩
    have hsl : ∀ W : World, (Instr.slice 32 (.slice (some ⟨g, off, none⟩) n1 c) (some (.int .i64 1)) none none).run Try.prog W = .ok (.slice oa' rest.length c') W := fun W => by rw [hfv, hn1, hc']; exact run_tailI g off rest.length c W
    have hn0 : ((n1 : Int) == 0) = false := by simp; omega
    have hn2 : (0 : Int) < (n1 : Int) := by omega
    have hn3 : (1 : Int) ≤ (n1 : Int) := by omega
    rw [List.length_cons, ← hn1] at hb
    have c0 : w.cell? ⟨b, 0, none⟩ = some (.slice (some ⟨g, off, none⟩) n1 c) := cell_of hb rfl
    have z0 : w.frozen? ⟨b, 0, none⟩ = false := free_of hb _
    have hgb : g ≠ b ∧ g < Z := hne (by simp) g rfl
    have HSUB : Hid (readAt w 1 (.slice oa' rest.length c') rest.length (intCells rest)) := Lib.hid (by
      rw [hfv, hc']
      exact hsub)
    have HB := Lib.hid (And.intro hb (And.intro hown hgb))
    have hp0 : 0 ≤ p := hge p (by simp)
    obtain ⟨m, hm⟩ : ∃ m : Nat, p = (m : Int) := ⟨p.toNat, by omega⟩
    have hmx := hp p (by simp)
    subst hm
    have HL : Hid (g < w.heap.size) := Lib.hid (hrow.lt (by simp) g rfl)
    clear hrow hsub hfv hc' hown hn1 hb hne hcap hge hp hp0 hgb
    have hof : (of : Int) ≠ 0 := by omega
    go_enter Try.func111, Try.ntmps111
    go_wp2_with fail
    go_ret
    obtain ⟨w1, hw1⟩ : ∃ w1 : World, w1 = w.setCell ⟨b, 0, none⟩ (.slice oa' rest.length c') := ⟨_, rfl⟩
    have ho : Only (fun k => k = b) w w1 := by rw [hw1]; exact only_setCell (fun k => k = b) w b 0 _ rfl
    have hb1 : w1.heap[b]? = some (.cells #[.slice oa' rest.length c'] 32 (0, 0)) := by rw [hw1]; exact heap_setCell_here _ HB.out.1
    rw [← hw1]
    refine ⟨?_, ⟨oa', c', hb1, HSUB.out.kept (fun k _ hk _ => ?_), fun _ k hk => ?_⟩, ho⟩
    · show Ending.returned (.int .i64 ((m : Int) % (of : Int))) = _
      simp [nextP]
    · rw [HB.out.2.1] at hk
      simp only [Option.some.injEq] at hk
      subst hk
      exact ho.block _ HL.out HB.out.2.2.1
    · have hk' : (Value.slice oa' rest.length c').ownBlock = some k := hk
      rw [HB.out.2.1] at hk'
      simp only [Option.some.injEq] at hk'
      rw [← hk']; exact HB.out.2.2
theorem next_v {w : World} {b Z : Nat} {ps : List Int} (h : PicksAt w b Z ps) (hge : AllGe ps) (of : Nat) (h1 : 0 < of) (h2 : of ≤ 1000000000) (hp : ∀ x ∈ ps, x ≤ 9223372036854775807) {v : Int} (hv : v = (of : Int)) :
    Calls Try.prog 111 #[.int .i64 v, .pointer (some ⟨b, 0, none⟩)] w fun e w' => e = .returned (.int .i64 (nextP of ps).1) ∧ PicksAt w' b Z (nextP of ps).2 ∧ Only (fun k => k = b) w w' := by
  subst hv
  exact next_b h hge of h1 h2 hp
end Go.Proofs.Ytmkjejngnahpeaa
/- Segment names: segment.Parse. -/
namespace Go.Proofs.Ytmkjejngnahpeaa
open Go.RowKit

def isHex (c : UInt8) : Bool := (48 ≤ c && c ≤ 57) || (97 ≤ c && c ≤ 102)
def hval (c : UInt8) : Nat := if c ≤ 57 then c.toNat - 48 else c.toNat - 87
def hnum (l : List UInt8) : Nat := l.foldl (fun v c => 16 * v + hval c) 0
theorem hnum_snoc (l : List UInt8) (c : UInt8) : hnum (l ++ [c]) = 16 * hnum l + hval c := by simp [hnum]
theorem hval_lt (c : UInt8) (h : isHex c = true) : hval c < 16 := by
  simp [isHex, UInt8.le_iff_toNat_le] at h
  unfold hval
  simp only [UInt8.le_iff_toNat_le]
  split <;> (simp at *; omega)
theorem hnum_lt (l : List UInt8) : ∀ k, k ≤ l.length → (l.take k).all isHex = true → hnum (l.take k) < 16 ^ k := by
  intro k
  induction k with
  | zero => intro _ _; simp [hnum]
  | succ k ih =>
    intro hk h
    rw [List.take_succ_eq_append_getElem (by omega)] at h ⊢
    rw [List.all_append, Bool.and_eq_true] at h
    have h1 := ih (by omega) h.1
    have h2 := hval_lt _ (by simpa using h.2)
    rw [hnum_snoc, Nat.pow_succ]
    omega

/-- the digits of a name -/
def digs (l : List UInt8) : List UInt8 := l.drop (l.length - 14)
/-- is it a segment's name? -/
def okName (l : List UInt8) : Bool :=
  decide (16 ≤ l.length) && (digs l).all isHex && loggedB (l.take (l.length - 15)) && (l[l.length - 15]? == some 45) && decide (hnum (digs l) ≤ 9007199254740992)

theorem or_hex (v d : Nat) (hv : v < 4503599627370496) (hd : d < 16) : bits .or .i64 (wrap64 ((v : Int) * 16)) (d : Int) = ((16 * v + d : Nat) : Int) := by
  have hw : wrap64 ((v : Int) * 16) = ((2 ^ 4 * v : Nat) : Int) := by unfold wrap64; omega
  have hlt : 2 ^ 4 * v ||| d < 2 ^ 63 := Nat.or_lt_two_pow (by omega) (by omega)
  have hj := Nat.two_pow_add_eq_or_of_lt (i := 4) (b := d) (by omega) v
  rw [hw]
  show IntKind.i64.wrap ((BitVec.ofInt 64 ((2 ^ 4 * v : Nat) : Int) ||| BitVec.ofInt 64 (d : Int)).toNat : Nat) = _
  have key : (BitVec.ofInt 64 ((2 ^ 4 * v : Nat) : Int) ||| BitVec.ofInt 64 (d : Int)).toNat = 2 ^ 4 * v ||| d := by
    rw [BitVec.toNat_or, BitVec.toNat_ofInt, BitVec.toNat_ofInt]
    congr 1 <;> omega
  rw [key, IntKind.wrap_i64, ← hj]
  omega

theorem hexd_hval (c : UInt8) (h : isHex c = true) : hexd (hval c) = c := by
  have : ∀ n : Fin 256, isHex (UInt8.ofNat n.val) = true → hexd (hval (UInt8.ofNat n.val)) = UInt8.ofNat n.val := by decide +kernel
  have hc := this ⟨c.toNat, c.toNat_lt⟩
  simp only [UInt8.ofNat_toNat] at hc
  exact hc h
theorem hex_hnum (l : List UInt8) : ∀ k, k ≤ l.length → (l.take k).all isHex = true → hex k (hnum (l.take k)) = l.take k := by
  intro k
  induction k with
  | zero => intro _ _; simp [hex]
  | succ k ih =>
    intro hk h
    rw [List.take_succ_eq_append_getElem (by omega)] at h ⊢
    rw [List.all_append, Bool.and_eq_true] at h
    have h1 := ih (by omega) h.1
    have hc : isHex (l[k]'(by omega)) = true := by simpa using h.2
    have h2 := hval_lt _ hc
    rw [hnum_snoc, hex, show (16 * hnum (l.take k) + hval l[k]) / 16 = hnum (l.take k) by omega, show (16 * hnum (l.take k) + hval l[k]) % 16 = hval l[k] by omega, h1, hexd_hval _ hc]

theorem digs_length (l : List UInt8) (h : 16 ≤ l.length) : (digs l).length = 14 := by simp [digs]; omega
theorem digs_bad (l : List UInt8) (k : Nat) (h : 16 ≤ l.length) (hk : k < 14) (hc : isHex ((digs l).getD k 0) = false) : okName l = false := by
  have hl := digs_length l h
  have : (digs l).all isHex = false := by
    rw [List.all_eq_false]
    refine ⟨(digs l)[k]'(by omega), List.getElem_mem _, ?_⟩
    simp only [List.getD_eq_getElem?_getD, List.getElem?_eq_getElem (show k < (digs l).length by omega), Option.getD_some] at hc
    simp [hc]
  simp [okName, this]
theorem name_parts (l : List UInt8) (h : 16 ≤ l.length) : l = l.take (l.length - 15) ++ (l[l.length - 15]'(by omega)) :: digs l := by
  have h1 := List.take_append_drop (l.length - 15) l
  have h2 : l.drop (l.length - 15) = (l[l.length - 15]'(by omega)) :: l.drop (l.length - 15 + 1) := List.drop_eq_getElem_cons (by omega)
  have h3 : l.length - 15 + 1 = l.length - 14 := by omega
  rw [h2, h3] at h1
  exact h1.symm
/-- the name that the digits give back is the name itself, just where the dash stands -/
theorem back_eq (l : List UInt8) (h : 16 ≤ l.length) (hx : (digs l).all isHex = true) :
    (l.take (l.length - 15) ++ 45 :: hex 14 (hnum (digs l)) = l) ↔ l[l.length - 15]? = some 45 := by
  have hl := digs_length l h
  have hh := hex_hnum (digs l) 14 (by omega) (by rw [List.take_of_length_le (by omega)]; exact hx)
  rw [List.take_of_length_le (by omega)] at hh
  rw [hh]
  constructor
  · intro he
    have : l[l.length - 15]? = (l.take (l.length - 15) ++ 45 :: digs l)[l.length - 15]? := by rw [he]
    rw [this, List.getElem?_append_right (by simp)]
    simp
  · intro he
    have hp := name_parts l h
    rw [List.getElem?_eq_getElem (by omega)] at he
    simp only [Option.some.injEq] at he
    rw [he] at hp
    exact hp.symm

/-- what Parse answers -/
def ParsePost (s : ByteArray) (e : Ending) : Prop :=
  (okName s.data.toList = true → e = .returned (.tuple #[.string (s.extract 0 (s.size - 15)), .int .i64 ((hnum (digs s.data.toList) : Nat) : Int), .bool true])) ∧
  (okName s.data.toList = false → e = .returned (.tuple #[.string ⟨#[]⟩, .int .i64 0, .bool false]))

theorem ParsePost.bad {s : ByteArray} (h : okName s.data.toList = false) : ParsePost s (.returned (.tuple #[.string ⟨#[]⟩, .int .i64 0, .bool false])) :=
  ⟨fun h' => (by rw [h] at h'; cases h'), fun _ => rfl⟩
theorem ParsePost.good {s : ByteArray} (h : okName s.data.toList = true) {a b : Value} (ha : a = .string (s.extract 0 (s.size - 15))) (hb : b = .int .i64 ((hnum (digs s.data.toList) : Nat) : Int)) :
    ParsePost s (.returned (.tuple #[a, b, .bool true])) :=
  ⟨fun _ => by rw [ha, hb], fun h' => (by rw [h] at h'; cases h')⟩

theorem name_ok' (s bk : ByteArray) (b : Nat) (w : World) (hs : s.size ≤ 8) (hl : loggedB s.data.toList = true) (hb : b ≤ 9007199254740992) (hbk : bk = ⟨(s.data.toList ++ 45 :: hex 14 b).toArray⟩) :
    Calls Try.prog 16 #[.string s, .int .i64 b] w fun e w' => e = .returned (.tuple #[.string bk, .int .i64 0]) ∧ Below w.heap.size w w' := by
  subst hbk
  exact name_ok s b w hs hl hb

theorem loggedB_len (l : List UInt8) (h : loggedB l = true) : 1 ≤ l.length ∧ l.length ≤ 8 := by
  simp [loggedB] at h
  omega

set_option maxRecDepth 100000 in
set_option maxHeartbeats 1000000 in
theorem parse_long (s : ByteArray) (w : World) (hs : s.size ≤ maxLen) (h16 : 16 ≤ s.size) :
    Calls Try.prog 17 #[.string s] w fun e w' => ParsePost s e ∧ Below w.heap.size w w' := by
  have hs0 := hs
  unfold maxLen at hs
  have hlen : s.data.toList.length = s.size := by simp
  obtain ⟨cap, w1, hrun, hcap, hcell, hbl, hsz⟩ := run_bytes_read (P := Try.prog) w 9 79 5 (s.extract (s.size - 14) s.size) Try.underlying9 Try.underlying79 Try.underlying5
  have HX := Lib.hid hsz
  clear hsz
  have h14 : s.size - (s.size - 14) = 14 := by omega
  obtain ⟨ds, hds⟩ : ∃ ds, ds = digs s.data.toList := ⟨_, rfl⟩
  have hdl : ds.length = 14 := by rw [hds]; exact digs_length _ (by omega)
  have hcell' : ∀ j, j < 14 → w1.cell? ⟨w.heap.size, j, none⟩ = some (.int .u8 ((ds.getD j 0).toNat : Int)) := by
    intro j hj
    have hsz : (s.extract (s.size - 14) s.size).size = 14 := by simp; omega
    rw [hcell j (by omega)]
    have e : (s.extract (s.size - 14) s.size)[j]'(by omega) = ds.getD j 0 := by
      rw [hds, digs, List.getD_eq_getElem?_getD, List.getElem?_drop, hlen]
      rw [ByteArray.getElem_extract]
      rw [List.getElem?_eq_getElem (by simp; omega)]
      rfl
    rw [e]
  have HDS := Lib.hid hds
  have HDL := Lib.hid hdl
  have HLEN := Lib.hid hlen
  clear hds hcell hcap hdl hlen
  go_enter Try.func17, Try.ntmps17
  go_wp2
  go_loop [6, 23] (fun c i => ∃ k v : Nat, k ≤ 14 ∧ i = .int .i64 k ∧ c = .int .i64 v ∧ Hid ((ds.take k).all isHex = true ∧ v = hnum (ds.take k))) (fun _ i => (14 - intOf i).toNat)
  case atStart => exact ⟨0, 0, by omega, rfl, rfl, Lib.hid (by simp [hnum])⟩
  case round =>
    obtain ⟨k, v, hk, rfl, rfl, HV⟩ := hrel
    by_cases hlt : k < 14
    · obtain ⟨c, hc⟩ : ∃ c, c = ds.getD k 0 := ⟨_, rfl⟩
      have hck := hcell' k hlt
      rw [← hc] at hck
      have HC := Lib.hid hc
      clear hc hcell'
      have HT : Hid (ds.take (k + 1) = ds.take k ++ [c]) := by
        refine Lib.hid ?_
        have := HDL.out
        rw [List.take_succ_eq_append_getElem (by omega), HC.out]
        simp [List.getD_eq_getElem?_getD, List.getElem?_eq_getElem (show k < ds.length by omega)]
      have HB : Hid (v < 4503599627370496) := by
        refine Lib.hid ?_
        have h1 := hnum_lt ds k (by have := HDL.out; omega) HV.out.1
        have h2 : 16 ^ k ≤ 16 ^ 13 := Nat.pow_le_pow_right (by decide) (by omega)
        rw [HV.out.2]
        have h3 : (16 : Nat) ^ 13 = 4503599627370496 := by decide
        omega
      by_cases hc1 : 48 ≤ (c.toNat : Int) ∧ (c.toNat : Int) ≤ 57
      · obtain ⟨hc1, hc2⟩ := hc1
        have HH : Hid (isHex c = true ∧ hval c = c.toNat - 48) := Lib.hid (by simp [isHex, hval, UInt8.le_iff_toNat_le]; omega)
        go_wp2
        go_round
        case rel =>
          refine ⟨k + 1, 16 * v + hval c, by omega, by go_num, ?_, Lib.hid ⟨?_, ?_⟩⟩
          · have := or_hex v (hval c) HB.out (hval_lt c HH.out.1)
            rw [show ((hval c : Nat) : Int) = (c.toNat : Int) - 48 by rw [HH.out.2]; omega] at this
            rw [this]
          · rw [HT.out, List.all_append, HV.out.1]; simp [HH.out.1]
          · rw [HT.out, hnum_snoc, HV.out.2]
        case measure => simp [intOf]; omega
      · by_cases hc3 : 97 ≤ (c.toNat : Int) ∧ (c.toNat : Int) ≤ 102
        · obtain ⟨hc3, hc4⟩ := hc3
          have HH : Hid (isHex c = true ∧ hval c = c.toNat - 87) := Lib.hid (by simp [isHex, hval, UInt8.le_iff_toNat_le]; omega)
          clear hc1
          go_wp2
          go_round
          case rel =>
            refine ⟨k + 1, 16 * v + hval c, by omega, by go_num, ?_, Lib.hid ⟨?_, ?_⟩⟩
            · have := or_hex v (hval c) HB.out (hval_lt c HH.out.1)
              rw [show ((hval c : Nat) : Int) = (c.toNat : Int) - 97 + 10 by rw [HH.out.2]; omega] at this
              rw [this]
            · rw [HT.out, List.all_append, HV.out.1]; simp [HH.out.1]
            · rw [HT.out, hnum_snoc, HV.out.2]
          case measure => simp [intOf]; omega
        · have HF : Hid (okName s.data.toList = false) := by
            refine Lib.hid (digs_bad _ k (by rw [HLEN.out]; exact h16) hlt ?_)
            rw [← HDS.out, ← HC.out]
            simp [isHex, UInt8.le_iff_toNat_le]
            omega
          go_wp2
          all_goals (go_ret3; exact ⟨ParsePost.bad HF.out, hbl⟩)
    · obtain rfl : k = 14 := by omega
      have HP : Hid ((s.extract 0 (s.size - 14 - 1)).data.toList = s.data.toList.take (s.size - 15)) := by
        refine Lib.hid ?_
        simp
        omega
      have HALL : Hid ((digs s.data.toList).all isHex = true ∧ v = hnum (digs s.data.toList)) := by
        refine Lib.hid ?_
        have h1 := HV.out
        rw [List.take_of_length_le (by have := HDL.out; omega), HDS.out] at h1
        exact h1
      have hps : (s.extract 0 (s.size - 14 - 1)).size ≤ s.size := by simp; omega
      clear hlt hk hcell'
      by_cases hg : loggedB (s.data.toList.take (s.size - 15)) = true ∧ v ≤ 9007199254740992
      · obtain ⟨hg1, hg2⟩ := hg
        have h8 : (s.extract 0 (s.size - 14 - 1)).size ≤ 8 := by
          have := (loggedB_len _ hg1).2
          simp at this ⊢
          omega
        obtain ⟨bk, hbk⟩ : ∃ bk : ByteArray, bk = ⟨((s.extract 0 (s.size - 14 - 1)).data.toList ++ 45 :: hex 14 v).toArray⟩ := ⟨_, rfl⟩
        have hback : bk = s ↔ s.data.toList[s.data.toList.length - 15]? = some 45 := by
          rw [← back_eq _ (by rw [HLEN.out]; exact h16) HALL.out.1, ← HALL.out.2, HLEN.out, hbk, HP.out]
          constructor
          · intro h
            have := congrArg (fun b : ByteArray => b.data.toList) h
            simpa using this
          · intro h
            apply ByteArray.ext
            apply Array.ext'
            simpa using h
        have hok : okName s.data.toList = (s.data.toList[s.data.toList.length - 15]? == some 45) := by
          unfold okName
          rw [HLEN.out, HALL.out.1, hg1, ← HALL.out.2]
          simp [hg2, h16]
        have HG := Lib.hid hg1
        have HG2 := Lib.hid hg2
        have HBK := Lib.hid hbk
        by_cases hd : s.data.toList[s.data.toList.length - 15]? = some 45
        · have hbs := str_eq_true (hback.2 hd)
          have HOK : Hid (okName s.data.toList = true) := Lib.hid (by rw [hok, hd]; rfl)
          clear hback hok hd hg1 hg2 hbk
          go_wp2_with fail
          refine (name_ok' _ bk v _ h8 (by rw [HP.out]; exact HG.out) HG2.out HBK.out).mono ?_
          rintro e w' ⟨rfl, hb2⟩
          go_wp2
          go_ret3
          exact ⟨ParsePost.good (a := .string (s.extract 0 (s.size - 14 - 1))) (b := .int .i64 (v : Int)) HOK.out (by rw [show s.size - 14 - 1 = s.size - 15 by omega]) (by rw [← HALL.out.2]), hbl.trans (hb2.mono hbl.size)⟩
        · have hbs := str_eq_false (fun h => hd (hback.1 h))
          have HOK : Hid (okName s.data.toList = false) := Lib.hid (by rw [hok]; simpa using hd)
          clear hback hok hd hg1 hg2 hbk
          go_wp2_with fail
          refine (name_ok' _ bk v _ h8 (by rw [HP.out]; exact HG.out) HG2.out HBK.out).mono ?_
          rintro e w' ⟨rfl, hb2⟩
          go_wp2
          go_ret3
          exact ⟨ParsePost.bad HOK.out, hbl.trans (hb2.mono hbl.size)⟩
      · have HOK : Hid (okName s.data.toList = false) := by
          refine Lib.hid ?_
          unfold okName
          rw [HLEN.out, ← HALL.out.2]
          cases hl : loggedB (s.data.toList.take (s.size - 15)) with
          | false => simp
          | true =>
            have : ¬ v ≤ 9007199254740992 := fun h => hg ⟨hl, h⟩
            simp [this]
        have HN : Hid (loggedB (s.extract 0 (s.size - 14 - 1)).data.toList = false ∨ (v : Int) < 0 ∨ 9007199254740992 < (v : Int)) := by
          refine Lib.hid ?_
          rw [HP.out]
          cases hl : loggedB (s.data.toList.take (s.size - 15)) with
          | false => exact .inl rfl
          | true =>
            have : ¬ v ≤ 9007199254740992 := fun h => hg ⟨hl, h⟩
            exact .inr (.inr (by omega))
        clear hg
        go_wp2_with fail
        refine (name_no _ _ _ (by unfold maxLen; omega) HN.out).mono ?_
        rintro e w' ⟨rfl, rfl⟩
        go_wp2
        go_ret3
        exact ⟨ParsePost.bad HOK.out, hbl⟩

set_option maxRecDepth 100000 in
set_option maxHeartbeats 400000 in
theorem parse_any (s : ByteArray) (w : World) (hs : s.size ≤ maxLen) :
    Calls Try.prog 17 #[.string s] w fun e w' => ParsePost s e ∧ Below w.heap.size w w' := by
  by_cases h16 : 16 ≤ s.size
  · exact parse_long s w hs h16
  · have HOK : Hid (okName s.data.toList = false) := Lib.hid (by simp [okName]; omega)
    unfold maxLen at hs
    go_enter Try.func17, Try.ntmps17
    go_wp2
    go_ret3
    exact ⟨ParsePost.bad HOK.out, Below.refl _ _⟩
end Go.Proofs.Ytmkjejngnahpeaa
/- Segment names: the reference's Parse. -/
namespace Go.Proofs.Ytmkjejngnahpeaa
open Go.RowKit

theorem num_hex (v d : Nat) : ((16 : Int) * (v : Int) + (d : Int)) = ((16 * v + d : Nat) : Int) := by omega

set_option maxRecDepth 100000 in
set_option maxHeartbeats 1000000 in
theorem refparse_long (s : ByteArray) (w : World) (m : Nat) (hsz : s.size = m + 15) (hs : m ≤ 9223372036854775792) (h1 : 1 ≤ m) :
    Calls Try.prog 18 #[.string s] w fun e w' => ParsePost s e ∧ w = w' := by
  have hlen : s.data.toList.length = m + 15 := by rw [← hsz]; simp
  obtain ⟨ds, hds⟩ : ∃ ds, ds = digs s.data.toList := ⟨_, rfl⟩
  have hdl : ds.length = 14 := by rw [hds]; exact digs_length _ (by omega)
  have hget : ∀ k (h : m + 1 + k < s.size), k < 14 → s[m + 1 + k]'h = ds.getD k 0 := by
    intro k h hk
    rw [hds, digs, List.getD_eq_getElem?_getD, List.getElem?_drop, hlen, show m + 15 - 14 + k = m + 1 + k by omega, List.getElem?_eq_getElem (by simp; omega)]
    rfl
  have HDS := Lib.hid hds
  have HDL := Lib.hid hdl
  have HLEN := Lib.hid hlen
  clear hds hdl hlen
  go_enter Try.func18, Try.ntmps18
  go_wp2
  go_loop [6, 7] (fun c i => ∃ k v : Nat, k ≤ 14 ∧ i = .int .i64 ((m + 1 + k : Nat) : Int) ∧ c = .int .i64 v ∧ v < 72057594037927936 ∧ Hid ((ds.take k).all isHex = true ∧ v = hnum (ds.take k))) (fun _ i => ((m : Int) + 15 - intOf i).toNat)
  case atStart => exact ⟨0, 0, by omega, by go_num, rfl, by omega, Lib.hid (by simp [hnum])⟩
  case round =>
    obtain ⟨k, v, hk, rfl, rfl, hv, HV⟩ := hrel
    by_cases hlt : k < 14
    · obtain ⟨c, hc⟩ : ∃ c, c = ds.getD k 0 := ⟨_, rfl⟩
      have hck := hget k (by omega) hlt
      rw [← hc] at hck
      have HC := Lib.hid hc
      clear hc hget
      have hvb : v < 4503599627370496 := by
        have h1 := hnum_lt ds k (by have := HDL.out; omega) HV.out.1
        have h2 : 16 ^ k ≤ 16 ^ 13 := Nat.pow_le_pow_right (by decide) (by omega)
        rw [HV.out.2]
        have h3 : (16 : Nat) ^ 13 = 4503599627370496 := by decide
        omega
      have HT : Hid (ds.take (k + 1) = ds.take k ++ [c]) := by
        refine Lib.hid ?_
        have := HDL.out
        rw [List.take_succ_eq_append_getElem (by omega), HC.out]
        simp [List.getD_eq_getElem?_getD, List.getElem?_eq_getElem (show k < ds.length by omega)]
      clear hv
      by_cases hc1 : 48 ≤ (c.toNat : Int) ∧ (c.toNat : Int) ≤ 57
      · obtain ⟨hc1, hc2⟩ := hc1
        have HH : Hid (isHex c = true ∧ hval c = c.toNat - 48) := Lib.hid (by simp [isHex, hval, UInt8.le_iff_toNat_le]; omega)
        go_wp2
        go_round
        case rel =>
          refine ⟨k + 1, 16 * v + hval c, by omega, by go_num, ?_, ?_, Lib.hid ⟨?_, ?_⟩⟩
          · rw [← num_hex, show ((hval c : Nat) : Int) = (c.toNat : Int) - 48 by rw [HH.out.2]; omega]
          · have := hval_lt c HH.out.1; omega
          · rw [HT.out, List.all_append, HV.out.1]; simp [HH.out.1]
          · rw [HT.out, hnum_snoc, HV.out.2]
        case measure => simp [intOf]; omega
      · by_cases hc3 : 97 ≤ (c.toNat : Int) ∧ (c.toNat : Int) ≤ 102
        · obtain ⟨hc3, hc4⟩ := hc3
          have HH : Hid (isHex c = true ∧ hval c = c.toNat - 87) := Lib.hid (by simp [isHex, hval, UInt8.le_iff_toNat_le]; omega)
          clear hc1
          go_wp2
          go_round
          case rel =>
            refine ⟨k + 1, 16 * v + hval c, by omega, by go_num, ?_, ?_, Lib.hid ⟨?_, ?_⟩⟩
            · rw [← num_hex, show ((hval c : Nat) : Int) = (c.toNat : Int) - 97 + 10 by rw [HH.out.2]; omega]
            · have := hval_lt c HH.out.1; omega
            · rw [HT.out, List.all_append, HV.out.1]; simp [HH.out.1]
            · rw [HT.out, hnum_snoc, HV.out.2]
          case measure => simp [intOf]; omega
        · have HF : Hid (okName s.data.toList = false) := by
            refine Lib.hid (digs_bad _ k (by rw [HLEN.out]; omega) hlt ?_)
            rw [← HDS.out, ← HC.out]
            simp [isHex, UInt8.le_iff_toNat_le]
            omega
          go_wp2
          all_goals (go_ret3; exact ⟨ParsePost.bad HF.out, rfl⟩)
    · obtain rfl : k = 14 := by omega
      have HP : Hid ((s.extract 0 m).data.toList = s.data.toList.take m) := by
        refine Lib.hid ?_
        simp
      have HALL : Hid ((digs s.data.toList).all isHex = true ∧ v = hnum (digs s.data.toList)) := by
        refine Lib.hid ?_
        have h1 := HV.out
        rw [List.take_of_length_le (by have := HDL.out; omega), HDS.out] at h1
        exact h1
      have hps : (s.extract 0 m).size ≤ maxLen := by simp [maxLen]; omega
      obtain ⟨g, hg⟩ : ∃ g, g = loggedB (s.data.toList.take m) := ⟨_, rfl⟩
      have HG : Hid (loggedB (s.extract 0 m).data.toList = g) := Lib.hid (by rw [HP.out, hg])
      obtain ⟨c, hc⟩ : ∃ c, c = s[m]'(by omega) := ⟨_, rfl⟩
      have HM : Hid (s.data.toList[m]? = some c) := by
        refine Lib.hid ?_
        rw [hc, List.getElem?_eq_getElem (by simp; omega)]
        rfl
      have HOK : Hid (okName s.data.toList = (g && (c == 45) && decide (v ≤ 9007199254740992))) := by
        refine Lib.hid ?_
        unfold okName
        rw [HLEN.out, HALL.out.1, ← HALL.out.2, show m + 15 - 15 = m by omega, HM.out, ← hg]
        simp [show 16 ≤ m + 15 by omega]
      have hck : s[m]'(by omega) = c := hc.symm
      clear hlt hk hget hg hc
      cases g with
      | false =>
        have HF : Hid (okName s.data.toList = false) := Lib.hid (by rw [HOK.out]; rfl)
        go_wp2_with (go_at_call 19; refine (reflogged_any _ _ hps).mono ?_; rintro e w' ⟨rfl, rfl⟩; rw [HG.out])
        go_ret3
        exact ⟨ParsePost.bad HF.out, rfl⟩
      | true =>
        by_cases h45 : (c.toNat : Int) = 45
        · have hb : ((c.toNat : Int) != 45) = false := by simp [h45]
          have hc45 : c = 45 := by
            apply UInt8.toNat_inj.1
            show c.toNat = 45
            omega
          by_cases hmax : v ≤ 9007199254740992
          · have hd : decide ((9007199254740992 : Int) < (v : Int)) = false := by rw [decide_eq_false_iff_not]; omega
            have HF : Hid (okName s.data.toList = true) := Lib.hid (by rw [HOK.out, hc45, decide_eq_true hmax]; rfl)
            clear h45 hc45 hmax hv
            go_wp2_with (go_at_call 19; refine (reflogged_any _ _ hps).mono ?_; rintro e w' ⟨rfl, rfl⟩; rw [HG.out])
            go_ret3
            exact ⟨ParsePost.good (a := .string (s.extract 0 m)) (b := .int .i64 (v : Int)) HF.out (by rw [hsz, show m + 15 - 15 = m by omega]) (by rw [← HALL.out.2]), rfl⟩
          · have hd : decide ((9007199254740992 : Int) < (v : Int)) = true := by rw [decide_eq_true_eq]; omega
            have HF : Hid (okName s.data.toList = false) := Lib.hid (by rw [HOK.out, decide_eq_false hmax]; simp)
            clear h45 hc45 hmax hv
            go_wp2_with (go_at_call 19; refine (reflogged_any _ _ hps).mono ?_; rintro e w' ⟨rfl, rfl⟩; rw [HG.out])
            go_ret3
            exact ⟨ParsePost.bad HF.out, rfl⟩
        · have hb : ((c.toNat : Int) != 45) = true := by simp [h45]
          have hc45 : (c == 45) = false := by
            rw [beq_eq_false_iff_ne]
            intro h
            rw [h] at h45
            exact h45 rfl
          have HF : Hid (okName s.data.toList = false) := Lib.hid (by rw [HOK.out, hc45]; simp)
          clear h45 hc45
          go_wp2_with (go_at_call 19; refine (reflogged_any _ _ hps).mono ?_; rintro e w' ⟨rfl, rfl⟩; rw [HG.out])
          go_ret3
          exact ⟨ParsePost.bad HF.out, rfl⟩

set_option maxRecDepth 100000 in
set_option maxHeartbeats 400000 in
theorem refparse_any (s : ByteArray) (w : World) (hs : s.size ≤ maxLen) :
    Calls Try.prog 18 #[.string s] w fun e w' => ParsePost s e ∧ w = w' := by
  by_cases h16 : 16 ≤ s.size
  · exact refparse_long s w (s.size - 15) (by omega) (by unfold maxLen at hs; omega) (by omega)
  · have HOK : Hid (okName s.data.toList = false) := Lib.hid (by simp [okName]; omega)
    unfold maxLen at hs
    go_enter Try.func18, Try.ntmps18
    go_wp2
    go_ret3
    exact ⟨ParsePost.bad HOK.out, rfl⟩
end Go.Proofs.Ytmkjejngnahpeaa
/- Segment names: known, and the law. -/
namespace Go.Proofs.Ytmkjejngnahpeaa
open Go.RowKit

theorem parse_true (s a : ByteArray) (b : Int) (w : World) (hs : s.size ≤ maxLen) (h : okName s.data.toList = true) (ha : s.extract 0 (s.size - 15) = a) (hb : ((hnum (digs s.data.toList) : Nat) : Int) = b) :
    Calls Try.prog 17 #[.string s] w fun e w' => e = .returned (.tuple #[.string a, .int .i64 b, .bool true]) ∧ Below w.heap.size w w' :=
  (parse_any s w hs).mono fun _ _ ⟨hp, hbl⟩ => ⟨by rw [← ha, ← hb]; exact hp.1 h, hbl⟩
theorem parse_false (s : ByteArray) (w : World) (hs : s.size ≤ maxLen) (h : okName s.data.toList = false) :
    Calls Try.prog 17 #[.string s] w fun e w' => e = .returned (.tuple #[.string ⟨#[]⟩, .int .i64 0, .bool false]) ∧ Below w.heap.size w w' :=
  (parse_any s w hs).mono fun _ _ ⟨hp, hbl⟩ => ⟨hp.2 h, hbl⟩
theorem refparse_true (s a : ByteArray) (b : Int) (w : World) (hs : s.size ≤ maxLen) (h : okName s.data.toList = true) (ha : s.extract 0 (s.size - 15) = a) (hb : ((hnum (digs s.data.toList) : Nat) : Int) = b) :
    Calls Try.prog 18 #[.string s] w fun e w' => e = .returned (.tuple #[.string a, .int .i64 b, .bool true]) ∧ w = w' :=
  (refparse_any s w hs).mono fun _ _ ⟨hp, hbl⟩ => ⟨by rw [← ha, ← hb]; exact hp.1 h, hbl⟩
theorem refparse_false (s : ByteArray) (w : World) (hs : s.size ≤ maxLen) (h : okName s.data.toList = false) :
    Calls Try.prog 18 #[.string s] w fun e w' => e = .returned (.tuple #[.string ⟨#[]⟩, .int .i64 0, .bool false]) ∧ w = w' :=
  (refparse_any s w hs).mono fun _ _ ⟨hp, hbl⟩ => ⟨hp.2 h, hbl⟩

theorem create_nilS (s : ByteArray) (b st : Int) (w : World) :
    Calls Try.prog 24 #[.pointer none, .string s, .int .i64 b, .int .i64 st] w fun e w' => e = .returned (.tuple #[.pointer none, .int .i64 1]) ∧ w = w' := by
  go_enter Try.func24, Try.ntmps24
  go_wp2
  go_ret2
  exact ⟨rfl, rfl⟩

def pName : ByteArray := ⟨#[112, 45, 48, 48, 48, 48, 48, 48, 48, 48, 48, 48, 48, 48, 48, 102]⟩
def pLog : ByteArray := ⟨#[112]⟩
theorem pName_ok : okName pName.data.toList = true := by decide +kernel
theorem pName_cut : pName.extract 0 (pName.size - 15) = pLog := by decide +kernel
theorem pName_num : ((hnum (digs pName.data.toList) : Nat) : Int) = 15 := by decide +kernel
theorem pName_back : pName = ⟨(pLog.data.toList ++ 45 :: hex 14 15).toArray⟩ := by decide +kernel
theorem pLog_ok : loggedB pLog.data.toList = true := by decide +kernel

theorem pName_eq : (pName.toList == [112, 45, 48, 48, 48, 48, 48, 48, 48, 48, 48, 48, 48, 48, 48, 102]) = true := by rw [ByteArray.toList_eq]; decide +kernel
theorem pLog_eq : (pLog.toList == [112]) = true := by rw [ByteArray.toList_eq]; decide +kernel

set_option maxRecDepth 100000 in
set_option maxHeartbeats 400000 in
theorem known_any (w : World) : Calls Try.prog 20 #[] w fun e w' => e = .returned (.bool true) ∧ Below w.heap.size w w' := by
  have hp1 := pName_eq
  have hp2 := pLog_eq
  go_enter Try.func20, Try.ntmps20
  go_wp2_with fail
  refine (name_ok' pLog pName 15 _ (by decide) pLog_ok (by decide) pName_back).mono ?_
  rintro e w1 ⟨rfl, hb1⟩
  go_wp2_with fail
  refine (parse_true pName pLog 15 _ (by decide) pName_ok pName_cut pName_num).mono ?_
  rintro e w2 ⟨rfl, hb2⟩
  go_wp2_with fail
  refine (create_nilS pLog 0 1 _).mono ?_
  rintro e w' ⟨rfl, rfl⟩
  go_wp2_with fail
  go_ret
  exact ⟨rfl, hb1.trans (hb2.mono hb1.size)⟩

theorem parse_same (t : ByteArray) (ht : t.size ≤ maxLen) : ∃ (a : ByteArray) (c : Int) (o : Bool),
    (∀ w, Calls Try.prog 17 #[.string t] w fun e w' => e = .returned (.tuple #[.string a, .int .i64 c, .bool o]) ∧ Below w.heap.size w w') ∧
    (∀ w, Calls Try.prog 18 #[.string t] w fun e w' => e = .returned (.tuple #[.string a, .int .i64 c, .bool o]) ∧ w = w') := by
  have ht' := ht
  cases hok : okName t.data.toList with
  | true => exact ⟨_, _, _, fun w => parse_true t _ _ w ht' hok rfl rfl, fun w => refparse_true t _ _ w ht hok rfl rfl⟩
  | false => exact ⟨_, _, _, fun w => parse_false t w ht' hok, fun w => refparse_false t w ht hok⟩

set_option maxRecDepth 100000 in
set_option maxHeartbeats 1000000 in
theorem names_any (s t : ByteArray) (b : Int) (w : World) (hs : s.size ≤ maxLen) (ht : t.size ≤ maxLen) (hb1 : -9223372036854775808 ≤ b) (hb2 : b ≤ 9223372036854775807) :
    Calls Try.prog 3 #[.string s, .int .i64 b, .string t] w fun e w' => e = .returned (.bool true) ∧ Below w.heap.size w w' := by
  obtain ⟨a, c, o, hp⟩ := parse_same t ht
  have HP := Lib.hid hp
  have HS := Lib.hid hs
  clear hp hs ht
  by_cases hn : loggedB s.data.toList = true ∧ 0 ≤ b ∧ b ≤ 9007199254740992
  · obtain ⟨n1, n2, n3⟩ := hn
    obtain ⟨n, rfl⟩ := Int.eq_ofNat_of_zero_le n2
    have h8 := (loggedB_len _ n1).2
    obtain ⟨bk, hbk⟩ : ∃ bk : ByteArray, bk = ⟨(s.data.toList ++ 45 :: hex 14 n).toArray⟩ := ⟨_, rfl⟩
    have H8 : Hid (s.size ≤ 8) := Lib.hid (by simpa using h8)
    have HB := Lib.hid hbk
    have HN := Lib.hid n1
    have HM : Hid (n ≤ 9007199254740992) := Lib.hid (by omega)
    have hd0 : decide ((n : Int) < 0) = false := by simp
    have hd : decide ((9007199254740992 : Int) < (n : Int)) = false := by rw [decide_eq_false_iff_not]; omega
    clear hbk n1 n2 n3 h8 hb1 hb2
    go_enter Try.func3, Try.ntmps3
    go_wp2_with fail
    refine (name_ok' s bk n _ H8.out HN.out HM.out HB.out).mono ?_
    rintro e w1 ⟨rfl, hw1⟩
    go_wp2_with fail
    refine (HP.out.1 _).mono ?_
    rintro e w2 ⟨rfl, hw2⟩
    go_wp2_with fail
    refine (HP.out.2 _).mono ?_
    rintro e w' ⟨rfl, rfl⟩
    go_wp2_with fail
    refine (reflogged_any s _ HS.out).mono ?_
    rintro e w' ⟨rfl, rfl⟩
    rw [HN.out]
    go_wp2_with fail
    refine (refname_ok s n _ H8.out HM.out).mono ?_
    rintro e w' ⟨rfl, rfl⟩
    rw [← HB.out]
    go_wp2_with fail
    refine (known_any _).mono ?_
    rintro e w3 ⟨rfl, hw3⟩
    go_wp2_with fail
    go_ret
    exact ⟨rfl, (hw1.trans (hw2.mono hw1.size)).trans (hw3.mono (Nat.le_trans hw1.size hw2.size))⟩
  · have HN : Hid (loggedB s.data.toList = false ∨ b < 0 ∨ 9007199254740992 < b) := by
      refine Lib.hid ?_
      cases hl : loggedB s.data.toList with
      | false => exact .inl rfl
      | true =>
        have : ¬ (0 ≤ b ∧ b ≤ 9007199254740992) := fun h => hn ⟨hl, h⟩
        exact .inr (by omega)
    clear hn
    cases hg : loggedB s.data.toList with
    | false =>
      have HG := Lib.hid hg
      clear hg
      go_enter Try.func3, Try.ntmps3
      go_wp2_with fail
      refine (name_no s b _ HS.out HN.out).mono ?_
      rintro e w' ⟨rfl, rfl⟩
      go_wp2_with fail
      refine (HP.out.1 _).mono ?_
      rintro e w2 ⟨rfl, hw2⟩
      go_wp2_with fail
      refine (HP.out.2 _).mono ?_
      rintro e w' ⟨rfl, rfl⟩
      go_wp2_with fail
      refine (reflogged_any s _ HS.out).mono ?_
      rintro e w' ⟨rfl, rfl⟩
      rw [HG.out]
      go_wp2_with fail
      refine (known_any _).mono ?_
      rintro e w3 ⟨rfl, hw3⟩
      go_wp2_with fail
      go_ret
      exact ⟨rfl, hw2.trans (hw3.mono hw2.size)⟩
    | true =>
      have HG := Lib.hid hg
      have hx : b < 0 ∨ 9007199254740992 < b := by
        rcases HN.out with h | h
        · rw [hg] at h; cases h
        · exact h
      clear hg
      by_cases h0 : b < 0
      · have hd0 : decide (b < 0) = true := by simp [h0]
        clear hx h0
        go_enter Try.func3, Try.ntmps3
        go_wp2_with fail
        refine (name_no s b _ HS.out HN.out).mono ?_
        rintro e w' ⟨rfl, rfl⟩
        go_wp2_with fail
        refine (HP.out.1 _).mono ?_
        rintro e w2 ⟨rfl, hw2⟩
        go_wp2_with fail
        refine (HP.out.2 _).mono ?_
        rintro e w' ⟨rfl, rfl⟩
        go_wp2_with fail
        refine (reflogged_any s _ HS.out).mono ?_
        rintro e w' ⟨rfl, rfl⟩
        rw [HG.out]
        go_wp2_with fail
        refine (known_any _).mono ?_
        rintro e w3 ⟨rfl, hw3⟩
        go_wp2_with fail
        go_ret
        exact ⟨rfl, hw2.trans (hw3.mono hw2.size)⟩
      · have hd0 : decide (b < 0) = false := by simp; omega
        have hd : decide (9007199254740992 < b) = true := by rw [decide_eq_true_eq]; omega
        clear hx h0
        go_enter Try.func3, Try.ntmps3
        go_wp2_with fail
        refine (name_no s b _ HS.out HN.out).mono ?_
        rintro e w' ⟨rfl, rfl⟩
        go_wp2_with fail
        refine (HP.out.1 _).mono ?_
        rintro e w2 ⟨rfl, hw2⟩
        go_wp2_with fail
        refine (HP.out.2 _).mono ?_
        rintro e w' ⟨rfl, rfl⟩
        go_wp2_with fail
        refine (reflogged_any s _ HS.out).mono ?_
        rintro e w' ⟨rfl, rfl⟩
        rw [HG.out]
        go_wp2_with fail
        refine (known_any _).mono ?_
        rintro e w3 ⟨rfl, hw3⟩
        go_wp2_with fail
        go_ret
        exact ⟨rfl, hw2.trans (hw3.mono hw2.size)⟩
end Go.Proofs.Ytmkjejngnahpeaa
