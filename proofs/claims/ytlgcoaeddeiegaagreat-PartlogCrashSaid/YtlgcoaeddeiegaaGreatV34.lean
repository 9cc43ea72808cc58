/- The texts Xk, Xm in one. -/
import Derived.Test.YtlgcoaeddeiegaaGreatV21
import Derived.Test.YtlgcoaeddeiegaaGreatV24
import Derived.Test.YtlgcoaeddeiegaaGreatV29
import Derived.Test.YtlgcoaeddeiegaaGreatV33
import Derived.Test.YtlgcoaeddeiegaaGreatV15
import Derived.Test.YtlgcoaeddeiegaaGreatV13
import Derived.Deep.CutBlock
import Derived.Deep.LoopGhost
/- law11: PartlogCrash, what its calls make of a log at home. -/
namespace Go.Proofs.YtlgcoaeddeiegaaGreat
open Go Go.Maps Go.RowKit
attribute [local go_sem] Oper.semAt_some

set_option maxRecDepth 100000 in
set_option maxHeartbeats 1000000 in
theorem refRightC_b {w : World} {v : Value} {l : List (Int × Int)} (h : readAt w 2 v l.length (fateCells l)) (hm : l.length ≤ 1000000000) : Calls Tryz.prog 26 #[v] w fun e w' => e = .returned (.bool (!l.any badFate)) ∧ w' = w := by
  obtain ⟨oa, c, rfl⟩ := h.shape
  obtain ⟨n, hn⟩ : ∃ n, l.length = n := ⟨_, rfl⟩
  rw [hn] at h hm ⊢
  have HR := Lib.hid h
  have HN := Lib.hid hn
  clear h hn
  go_enter Tryz.func26, Tryz.ntmps26
  go_wp2_with fail
  go_loop [3] (fun i => ∃ j : Nat, j ≤ n ∧ i = .int .i64 j ∧ Hid ((l.take j).any badFate = false)) (fun i => n - (intOf i).toNat)
  case atStart => exact ⟨0, Nat.zero_le _, rfl, Lib.hid (by simp)⟩
  case round =>
    obtain ⟨j, hj, rfl, HA⟩ := hrel
    by_cases hlt : j < n
    · have hjl : j < l.length := by rw [HN.out]; exact hlt
      obtain ⟨g, off, rfl⟩ := HR.out.addr (by omega)
      obtain ⟨k, m, hx⟩ : ∃ k m, l[j] = (k, m) := ⟨_, _, rfl⟩
      have k0 : w.cell? ⟨g, off + j * 2, none⟩ = some (.int .i64 k) := by
        have := readAt_cellP HR.out (i := j * 2 + 0) (u := .int .i64 k) (by have := (fate_cells l j hjl).1; rw [hx, Nat.mul_comm] at this; exact this)
        simpa using this
      have HNX : Hid ((l.take (j + 1)).any badFate = badFate (k, m)) := Lib.hid (by rw [List.take_succ_eq_append_getElem hjl, List.any_append, HA.out, hx]; simp)
      have HXL : Hid (badFate (k, m) = true → l.any badFate = true) := Lib.hid (fun hv => List.any_eq_true.2 ⟨(k, m), by rw [← hx]; exact List.getElem_mem _, hv⟩)
      clear hx
      by_cases h0 : k < 0
      · have HB : Hid (l.any badFate = true) := Lib.hid (HXL.out (by simp [badFate, h0]))
        go_wp2_with fail
        go_ret
        exact ⟨by rw [HB.out]; rfl, rfl⟩
      · by_cases h2 : 2 < k
        · have HB : Hid (l.any badFate = true) := Lib.hid (HXL.out (by simp [badFate, h2]))
          go_wp2_with fail
          go_ret
          exact ⟨by rw [HB.out]; rfl, rfl⟩
        · have HG : Hid ((l.take (j + 1)).any badFate = false) := Lib.hid (by rw [HNX.out]; simp [badFate, h0, h2])
          go_wp2_with fail
          exact ⟨⟨j + 1, by omega, by simp, HG⟩, by simp [intOf]; omega⟩
    · obtain rfl : j = n := by omega
      have HF : Hid (l.any badFate = false) := Lib.hid (by
        have h1 := HA.out
        rwa [List.take_of_length_le (by rw [HN.out]; exact Nat.le_refl _)] at h1)
      go_wp2_with fail
      go_ret
      exact ⟨by rw [HF.out]; rfl, rfl⟩
section
variable {log : ByteArray} {g : Lg} {d : Dk} {A0 B0 X : List Bat}
theorem CrI.fit (h : CrI log g d A0 B0 X) (hal : g.dead = false) (hlog : loggedB log.data.toList = true) (hs : (d.files.map (·.name)).Pairwise (· < ·)) : LgFit log g d := fun s hsg => by
  obtain ⟨f, hf, hn⟩ := h.has s hsg
  obtain ⟨h1, -, h2⟩ := h.all hal hf
  have hfi := find_of_mem hs hf h1
  rw [hn] at hfi
  refine ⟨f, hfi, ?_⟩
  rcases h2 with ⟨s', hs', e1, -, -, e4, -⟩ | ⟨e1, e2⟩
  · have hsg' : s' ∈ g.segs := List.mem_append_left _ hs'
    have : s' = s := h.ok.same hsg' hsg (sname_inj hlog (h.ok.chain s' hsg').2 (h.ok.chain s hsg).2 (e1.symm.trans hn))
    subst this
    exact e4
  · have hlast : (g.lb, g.lbs) ∈ g.segs := List.mem_append_right _ (by simp)
    have : s = (g.lb, g.lbs) := h.ok.same hsg hlast (sname_inj hlog (h.ok.chain s hsg).2 h.ok.chainL.2 (hn.symm.trans e1))
    subst this
    obtain ⟨-, -, -, tl, t, k, h4, h5, -⟩ := e2
    rw [(h.alive hal).1] at h5
    have h7 : tl = [] := by
      have : (batsT []).length = (tl ++ t).length := by rw [h5]
      rw [List.length_append] at this
      exact List.length_eq_zero_iff.1 (by simp [batsT] at this; omega)
    rw [h4, h7, List.append_nil]
theorem CrI.zero {d : Dk} (h : d.files = []) (h1 : (d.create (sname log 0)).1 = 0) (h2 : (d.create (sname log 0)).2.syncdir.1 = 0) : CrI log Lg.zero (d.create (sname log 0)).2.syncdir.2 [] [] [] := by
  have e1 : (d.create (sname log 0)).2.files = insF ⟨sname log 0, [], 0, true, false⟩ d.files := by
    unfold Dk.create at h1 ⊢
    split
    · rename_i a; rw [if_pos a] at h1; cases h1
    · rename_i a
      rw [if_neg a] at h1
      split
      · rename_i b; rw [if_pos b] at h1; cases h1
      · rename_i b
        rw [if_neg b] at h1
        split
        · rename_i c; rw [if_pos c] at h1; cases h1
        · rename_i c
          rw [if_neg c] at h1
          split
          · rename_i e; rw [if_pos e] at h1; exact absurd h1 e
          · rfl
  have e2 : (d.create (sname log 0)).2.syncdir.2.files = [⟨sname log 0, [], 0, true, true⟩] := by
    unfold Dk.syncdir at h2 ⊢
    split
    · rename_i a; rw [if_pos a] at h2; exact absurd h2 a
    · show ((d.create (sname log 0)).2.files.filter (·.there)).map _ = _
      rw [e1, h]
      rfl
  refine ⟨LgOk.zero, Chain.nil 0, rfl, fun _ => ⟨rfl, rfl⟩, fun s hs => ?_, fun f hf => ?_⟩
  · rw [e2]
    have hs : s ∈ [((0 : Nat), ([] : List Bat))] := hs
    rw [List.mem_singleton] at hs
    subst hs
    exact ⟨_, List.mem_singleton.2 rfl, rfl⟩
  · rw [e2, List.mem_singleton] at hf
    subst hf
    exact .inr (.inl ⟨rfl, rfl, .inl rfl, Nat.le_refl _, [], [], 0, rfl, rfl, Nat.le_refl _, Nat.le_refl _, Nat.le_refl _⟩)
theorem OldI.few {tl : List UInt8} (h : OldI log g d tl) (hf : d.files.length ≤ 4096) : g.segs.length ≤ 4096 := by
  have h1 : (d.namesOf log).length ≤ d.files.length := by
    unfold Dk.namesOf Dk.names
    refine Nat.le_trans (List.length_filter_le _ _) ?_
    rw [List.length_map]
    exact List.length_filter_le _ _
  rw [h.names, List.length_map] at h1
  omega
end
section
variable {w w1 w2 : World} {X : Nat → Prop} {lp q : Nat} {log : ByteArray} {roll step : Nat} {g : Lg} {d : Dk}
theorem homeDrop_b (h : Home w X w1 lp q log roll step g d) (before : Int) :
    Calls Tryz.prog 28 #[.pointer (some ⟨lp, 0, none⟩), .int .i64 before] w1 fun e w' => (∃ n : Int, e = .returned (.tuple #[.int .i64 n, .int .i64 (g.dropT log before d).1])) ∧ Home w X w' lp q log roll step (g.dropT log before d).2.1 (g.dropT log before d).2.2 ∧ KeptOf X w1 w' := by
  obtain ⟨S, T, h1, h2⟩ := h.log'
  refine (logDrop_b h1 before).mono ?_
  rintro e w' ⟨n, he, ht⟩
  exact ⟨⟨n, he⟩, h.turn h2 ht⟩
theorem Home.sorted (h : Home w X w1 lp q log roll step g d) : (d.files.map (·.name)).Pairwise (· < ·) := by
  obtain ⟨S, T, ⟨⟨mb, fv, L, hd⟩, -, -⟩, -⟩ := h.log'
  exact hd.sorted
def OpenC (w : World) (q : Nat) (roll step : Int) (e : Ending) (w' : World) : Prop :=
  (∃ er : Int, er ≠ 0 ∧ e = .returned (.tuple #[.pointer none, .int .i64 er]) ∧ Below w.heap.size w w') ∨
  (∃ (lp roll' step' : Nat) (d' : Dk), (roll' : Int) = roll ∧ (step' : Int) = step ∧ e = .returned (.tuple #[.pointer (some ⟨lp, 0, none⟩), .int .i64 0]) ∧ Home w (fun _ => False) w' lp q pName roll' step' Lg.zero d' ∧ CrI pName Lg.zero d' [] [] [] ∧ (1 ≤ roll' ∧ roll' ≤ 16711680) ∧ (1 ≤ step' ∧ step' ≤ 16777216))
theorem openC_b {w w1 : World} {q : Nat} {fs : List (Int × Int)} (h : DiskAt w1 (fun k => w.heap.size ≤ k ∧ k < w1.heap.size) q ⟨[], fs, 0⟩) (hb : Below w.heap.size w w1) (roll step : Int) :
    Calls Tryz.prog 15 #[.pointer (some ⟨q, 0, none⟩), .string pName, .agg #[.int .i64 roll, .int .i64 step]] w1 fun e w' => OpenC w q roll step e w' := by
  refine (openNew_b h (log := pName) (by decide) pName_ok rfl roll step).mono ?_
  rintro e w2 ho
  have hz := hb.size
  rcases ho with ⟨-, g1, g2⟩ | ⟨-, g0, g1, -, g3⟩ | ⟨-, -, g0, g1, -, g3⟩ | ⟨-, i1, i2, lp, roll', step', S2, T2, er, es, he, hd2, hS, hT, ho2⟩
  · exact .inl ⟨2, by decide, g1, hb.trans (g2.mono hb.size)⟩
  · exact .inl ⟨_, g0, g1, hb.trans (g3.below (fun i hi e => by have := e.1; omega) hz)⟩
  · exact .inl ⟨_, g0, g1, hb.trans (g3.below (fun i hi e => by have := e.1; omega) hz)⟩
  · obtain ⟨G, a, pv, hm⟩ := hd2.log'
    refine .inr ⟨lp, roll', step', _, er, es, he, ⟨⟨S2, T2, hd2, fun k hk => ⟨?_, id⟩⟩, hb.trans (ho2.below (fun i hi e => by have := e.1; omega) hz), fun _ hf => hf.elim⟩, CrI.zero rfl i1 i2, hm.rollB, hm.stepB⟩
    rcases hk with hk | hk
    · rcases hS k hk with e | e
      · exact e.1
      · have := e.1; omega
    · have := hT k hk; omega
def AgainL (w0 : World) (q : Nat) (log : ByteArray) (roll step : Nat) (g : Lg) (e : Ending) (w' : World) : Prop :=
  ∃ (lp : Nat) (d : Dk), e = .returned (.tuple #[.pointer (some ⟨lp, 0, none⟩), .int .i64 0]) ∧ (∃ S T, LogD w' S T lp q log roll step g d) ∧ OldI log g d [] ∧ Below w0.heap.size w0 w'
theorem againL_b {w0 w : World} {q : Nat} {d : Dk} {tl : List UInt8} (h : DiskAt w (fun k => w0.heap.size ≤ k ∧ k < w.heap.size) q d) (hb : Below w0.heap.size w0 w) (ho : OldI log g d tl) (hl : log.size ≤ 8) (hlog : loggedB log.data.toList = true) (hr : 1 ≤ roll ∧ roll ≤ 16711680) (hs : 1 ≤ step ∧ step ≤ 16777216) :
    Calls Tryz.prog 15 #[.pointer (some ⟨q, 0, none⟩), .string log, .agg #[.int .i64 (roll : Int), .int .i64 (step : Int)]] w fun e w' => AgainL w0 q log roll step g e w' := by
  have hfew : g.segs.length ≤ 4096 := ho.few (by
    obtain ⟨mb, fv, L, hd⟩ := h
    exact hd.few)
  refine (openOld_b h ho hl hlog hr hs hfew).mono ?_
  rintro e w' ⟨lp, S', T', he, hd, hS, hT, ho'⟩
  exact ⟨lp, _, he, ⟨S', T', hd⟩, ho.opened hlog, hb.trans (ho'.below (fun i hi e => by have := e.1; omega) hb.size)⟩
theorem crashL_b {S : Nat → Prop} (h : DiskAt w S q d) {oa : Option Addr} {c n : Nat} {ps : List Int} (hn : ps.length = n) (hp : readAt w 1 (.slice oa n c) n (intCells ps)) (hpl : n ≤ 1000) (hpm : ∀ x ∈ ps, x ≤ 9223372036854775807) :
    Calls Tryz.prog 29 #[.pointer (some ⟨q, 0, none⟩), .agg #[.slice oa n c]] w fun e w' => (e = .returned (.tuple #[.pointer none, .int .i64 2]) ∧ Below w.heap.size w w') ∨
      (∃ q2, e = .returned (.tuple #[.pointer (some ⟨q2, 0, none⟩), .int .i64 0]) ∧ DiskAt w' (fun k => w.heap.size ≤ k ∧ k < w'.heap.size) q2 (d.crash ps) ∧ Below w.heap.size w w') := by
  subst hn
  refine (crash_b h oa c ps hp (by omega) hpm).mono ?_
  rintro e w' (⟨_, he, hb⟩ | ⟨_, q2, he, hd, hb⟩)
  · exact .inl ⟨he, hb⟩
  · exact .inr ⟨q2, he, hd, hb⟩
end
structure EndsI (D : DataW Unit) (W : List Bat) : Prop where
  map : IsMap D
  at' : ∀ j, j ≤ W.length → D.atKey (.int .i64 ((cntT (W.take j) : Nat) : Int)) (.lit (.int .i64 0)) = .lit (.int .i64 1)
theorem EndsI.zero : EndsI ((DataW.map []).put (.int .i64 ((0 : Nat) : Int)) (.lit (.int .i64 1))) [] := by
  refine ⟨⟨_, rfl⟩, fun j hj => ?_⟩
  obtain rfl : j = 0 := Nat.le_zero.1 hj
  exact atKey_put_same isMap_empty (show WideAt.IsKeyLit (.int .i64 _) from trivial) _ _
theorem EndsI.put {D : DataW Unit} {W : List Bat} (h : EndsI D W) (n : Nat) : EndsI (D.put (.int .i64 (n : Int)) (.lit (.int .i64 1))) W := by
  obtain ⟨es, rfl⟩ := h.map
  refine ⟨⟨_, rfl⟩, fun j hj => ?_⟩
  by_cases e : cntT (W.take j) = n
  · rw [e]
    exact atKey_put_same ⟨es, rfl⟩ (show WideAt.IsKeyLit (.int .i64 _) from trivial) _ _
  · rw [atKey_put_other (fun e2 => e (by simp only [Lit.int.injEq, true_and] at e2; omega))]
    exact h.at' j hj
theorem EndsI.add {D : DataW Unit} {W : List Bat} (h : EndsI D W) {b : Bat} {n : Nat} (hn : n = cntT (W ++ [b])) : EndsI (D.put (.int .i64 (n : Int)) (.lit (.int .i64 1))) (W ++ [b]) := by
  obtain ⟨es, rfl⟩ := h.map
  refine ⟨⟨_, rfl⟩, fun j hj => ?_⟩
  by_cases e : cntT ((W ++ [b]).take j) = n
  · rw [e]
    exact atKey_put_same ⟨es, rfl⟩ (show WideAt.IsKeyLit (.int .i64 _) from trivial) _ _
  · rw [atKey_put_other (fun e2 => e (by simp only [Lit.int.injEq, true_and] at e2; omega))]
    rw [List.length_append, List.length_singleton] at hj
    by_cases hj2 : j ≤ W.length
    · rw [List.take_append_of_le_length hj2]
      exact h.at' j hj2
    · exact absurd (by rw [hn, List.take_of_length_le (by simp; omega)]) e
end Go.Proofs.YtlgcoaeddeiegaaGreat
/- law11: PartlogCrash: the pieces of its code by paths; its frame; what stands in its loop. -/
namespace Go.Proofs.YtlgcoaeddeiegaaGreat
open Go Go.Maps Go.RowKit

def cdA : Code → Code | .seq a _ => a | c => c
def cdB : Code → Code | .seq _ b => b | c => c
def cdT : Code → Code | .cond _ t _ => t | c => c
def cdE : Code → Code | .cond _ _ e => e | c => c
def cdI : Code → Code | .block _ c => c | .loop c => c | c => c
noncomputable def crC : Code := match Tryz.f4.body with | some c => c | none => .skip
noncomputable def crX : Code := cdB (cdB (cdB (cdB (cdB (cdB (cdB (cdB crC)))))))
noncomputable def crLoop : Code := cdA crX
noncomputable def crTail : Code := cdB crX
noncomputable def crBody : Code := cdI (cdI (cdB crLoop))
noncomputable def crP : Code := cdI (cdA (cdB crBody))
noncomputable def crS : Code := cdI (cdB (cdA (cdB crP)))
noncomputable def crA1 : Code := cdT (cdB crS)
noncomputable def crE1 : Code := cdE (cdB crS)
noncomputable def crA2 : Code := cdT (cdB crE1)
noncomputable def crE2 : Code := cdE (cdB crE1)
noncomputable def crA4 : Code := cdT (cdB crE2)
theorem cr_loop : crLoop = .seq (cdA crLoop) (.block 0 (.loop crBody)) := by kernel_rfl
theorem cr_x : crX = .seq crLoop crTail := by kernel_rfl
theorem cr_body : crBody = .seq (cdA crBody) (.seq (.block 1 crP) (cdB (cdB crBody))) := by kernel_rfl
theorem cr_p : crP = .seq (cdA crP) (.seq (.seq (cdA (cdA (cdB crP))) (.block 2 crS)) (cdB (cdB crP))) := by kernel_rfl
theorem cr_s : crS = .seq (cdA crS) (.cond (.tmp 94) crA1 crE1) := by kernel_rfl
theorem cr_e1 : crE1 = .seq (cdA crE1) (.cond (.tmp 139) crA2 crE2) := by kernel_rfl
theorem cr_e2 : crE2 = .seq (cdA crE2) (.cond (.tmp 143) crA4 .skip) := by kernel_rfl
def frC (os op oa oz : Option Addr) (b3 ns cs np cp na ca q lp nz cz mb i : Nat) (v15 v93 : Value) (u : Nat → Value) : Array Value := #[u 0, u 1, u 2, .pointer (some ⟨b3, 0, none⟩), u 4, .slice os ns cs, .slice op np cp, .slice oa na ca, .pointer (some ⟨q, 0, none⟩), u 9, .pointer (some ⟨lp, 0, none⟩), u 11, .slice oz nz cz, .map (some mb), .int .i64 (i : Int), v15, u 16, u 17, u 18, u 19, u 20, u 21, u 22, u 23, u 24, u 25, u 26, u 27, u 28, u 29, u 30, u 31, u 32, u 33, u 34, u 35, u 36, u 37, u 38, u 39, u 40, u 41, u 42, u 43, u 44, u 45, u 46, u 47, u 48, u 49, u 50, u 51, u 52, u 53, u 54, u 55, u 56, u 57, u 58, u 59, u 60, u 61, u 62, u 63, u 64, u 65, u 66, u 67, u 68, u 69, u 70, u 71, u 72, u 73, u 74, u 75, u 76, u 77, u 78, u 79, u 80, u 81, u 82, u 83, u 84, u 85, u 86, u 87, u 88, u 89, u 90, u 91, u 92, v93, u 94, u 95, u 96, u 97, u 98, u 99, u 100, u 101, u 102, u 103, u 104, u 105, u 106, u 107, u 108, u 109, u 110, u 111, u 112, u 113, u 114, u 115, u 116, u 117, u 118, u 119, u 120, u 121, u 122, u 123, u 124, u 125, u 126, u 127, u 128, u 129, u 130, u 131, u 132, u 133, u 134, u 135, u 136, u 137, u 138, u 139, u 140, u 141, u 142, u 143, u 144, u 145, u 146, u 147, u 148, u 149, u 150, u 151, u 152, u 153, u 154, u 155, u 156, u 157, u 158, u 159, u 160, u 161, u 162, u 163, u 164, u 165, u 166, u 167, u 168, u 169, u 170, u 171, u 172, u 173, u 174, u 175, u 176, u 177, u 178, u 179, u 180, u 181, u 182, u 183, u 184, u 185, u 186, u 187, u 188, u 189, u 190, u 191, u 192, u 193, u 194, u 195, u 196, u 197, u 198, u 199, u 200, u 201, u 202, u 203, u 204, u 205, u 206, u 207, u 208, u 209, u 210, u 211, u 212, u 213, u 214, u 215, u 216, u 217]
section
variable {os op oa oz : Option Addr} {b3 ns cs np cp na ca q lp nz cz mb i : Nat} {v15 v93 : Value} {w : World} {l : Array Value}
theorem frC_go {c : Code} {Q : Exit → Act → World → Prop} (h : l = frC os op oa oz b3 ns cs np cp na ca q lp nz cz mb i v15 v93 (fun k => l.toList.getD k undef)) (H : ∀ u, Code.wp Tryz.prog c Q ⟨frC os op oa oz b3 ns cs np cp na ca q lp nz cz mb i v15 v93 u, []⟩ w) : Code.wp Tryz.prog c Q ⟨l, []⟩ w := by
  rw [h]
  exact H _
theorem frC_k {K : Act → World → Prop} (h : l = frC os op oa oz b3 ns cs np cp na ca q lp nz cz mb i v15 v93 (fun k => l.toList.getD k undef)) (H : ∀ u, K ⟨frC os op oa oz b3 ns cs np cp na ca q lp nz cz mb i v15 v93 u, []⟩ w) : K ⟨l, []⟩ w := by
  rw [h]
  exact H _
end
structure CrS (w1 wr : World) (lp q r st : Nat) (X : Nat → Prop) (g : Lg) (d : Dk) (ys : List RcV) (A0 B0 XX : List Bat) (k : Nat) (D : DataW Unit) (v : Value) (nz mb t : Nat) : Prop where
  home : Home w1 X wr lp q pName r st g d
  cri : CrI pName g d A0 B0 XX
  recs : ys.map (·.r) = recsT (A0 ++ B0 ++ g.bats ++ XX)
  len : ys.length = nz
  row : RowP (fun k => X k ∧ w1.heap.size ≤ k) wr v ys
  map : wr.ownsMap Tryz.prog 2 (plainElem Tryz.prog 3) mb k D
  ends : EndsI D (A0 ++ B0 ++ g.bats ++ XX)
  mbX : X mb ∧ w1.heap.size ≤ mb
  few : k ≤ 1 + 2 * t ∧ nz ≤ 30 * t
def CrJ (al : Bool) (w1 wr : World) (lp q r st : Nat) (v : Value) (nz mb t : Nat) : Prop :=
  ∃ X g d ys A0 B0 XX k D, CrS w1 wr lp q r st X g d ys A0 B0 XX k D v nz mb t ∧ (al = true → g.dead = false)
theorem ownsMap_keptC {w w' : World} {mb k : Nat} {D : DataW Unit} (h : w.ownsMap Tryz.prog 2 (plainElem Tryz.prog 3) mb k D) (hk : w'.heap[mb]? = w.heap[mb]?) : w'.ownsMap Tryz.prog 2 (plainElem Tryz.prog 3) mb k D := by
  obtain ⟨es, clock, e1, e2, e3, e4⟩ := h
  exact ⟨es, clock, hk.trans e1, e2, e3, e4⟩
section
variable {w1 wr wx : World} {lp q r st : Nat} {X : Nat → Prop} {g g' : Lg} {d d' : Dk} {ys : List RcV} {A0 B0 XX : List Bat} {k : Nat} {D : DataW Unit} {v : Value} {nz mb t : Nat}
theorem CrS.later (h : CrS w1 wr lp q r st X g d ys A0 B0 XX k D v nz mb t) (hb : Below wr.heap.size wr wx) : CrS w1 wx lp q r st X g d ys A0 B0 XX k D v nz mb t :=
  { h with home := h.home.later hb, row := h.row.later hb, map := ownsMap_keptC h.map (hb.block mb (h.home.xlow mb h.mbX.1)) }
theorem CrS.more (h : CrS w1 wr lp q r st X g d ys A0 B0 XX k D v nz mb t) (hb : Below wr.heap.size wr wx) : CrS w1 wx lp q r st (fun k => X k ∨ (wr.heap.size ≤ k ∧ k < wx.heap.size)) g d ys A0 B0 XX k D v nz mb t :=
  { h with home := h.home.more hb, row := (h.row.later hb).mono (fun _ _ hp => ⟨.inl hp.1, hp.2⟩), map := ownsMap_keptC h.map (hb.block mb (h.home.xlow mb h.mbX.1)), mbX := ⟨.inl h.mbX.1, h.mbX.2⟩ }
theorem CrS.up (h : CrS w1 wr lp q r st X g d ys A0 B0 XX k D v nz mb t) : CrS w1 wr lp q r st X g d ys A0 B0 XX k D v nz mb (t + 1) :=
  { h with few := by have := h.few; omega }
theorem CrS.turn (h : CrS w1 wr lp q r st X g d ys A0 B0 XX k D v nz mb t) (hh : Home w1 X wx lp q pName r st g' d') (hk : KeptOf X wr wx) {A0' B0' XX' : List Bat} (hc : CrI pName g' d' A0' B0' XX') (he : A0' ++ B0' ++ g'.bats ++ XX' = A0 ++ B0 ++ g.bats ++ XX) : CrS w1 wx lp q r st X g' d' ys A0' B0' XX' k D v nz mb t where
  home := hh
  cri := hc
  recs := by rw [he]; exact h.recs
  len := h.len
  row := h.row.kept (fun k _ hp => hk k hp.1)
  map := ownsMap_keptC h.map (hk mb h.mbX.1)
  ends := by rw [he]; exact h.ends
  mbX := h.mbX
  few := h.few
end
end Go.Proofs.YtlgcoaeddeiegaaGreat
