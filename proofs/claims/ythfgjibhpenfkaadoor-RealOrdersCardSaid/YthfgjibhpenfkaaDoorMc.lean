/- Real: Sort of no floats. -/
import Derived.Test.YthfgjibhpenfkaaDoorRd
import Derived.Test.YthfgjibhpenfkaaDoorLv
namespace Go.Proofs.YthfgjibhpenfkaaDoor
open Go.RowKit Fl Go.Shelf

theorem len64_0 (w : World) : Calls Tryd.prog 72 #[.int .u64 0] w fun e w' => e = .returned (.int .i64 0) ∧ w = w' := by
  go_enter Tryd.func72, Tryd.ntmps72
  go_wp2_with fail
  go_ret
  exact ⟨congrArg (fun z => Ending.returned (.int .i64 z)) (show wrap64 (wrap64 (Lib.len8 0)) = 0 by decide +kernel), rfl⟩
theorem len_0 (w : World) : Calls Tryd.prog 54 #[.int .u64 0] w fun e w' => e = .returned (.int .i64 0) ∧ w = w' := by
  go_enter Tryd.func54, Tryd.ntmps54
  go_wp2_with fail
  refine (len64_0 _).mono ?_
  rintro e w' ⟨rfl, rfl⟩
  go_wp2_with fail
  go_ret
  exact ⟨rfl, rfl⟩
set_option maxRecDepth 100000 in
theorem ins_nil (w : World) : Calls Tryd.prog 63 #[.slice none 0 0, .int .i64 0, .int .i64 0, .func (.func 13) #[] #[]] w fun e w' => e = .returned (.tuple #[]) ∧ w = w' := by
  go_enter Tryd.func63, Tryd.ntmps63
  go_wp2_with fail
  go_loopg [8] 1 (fun g s8 wr => s8 = .int .i64 1 ∧ g = 1 ∧ w = wr)
  case atStart => exact ⟨rfl, rfl, rfl⟩
  case round =>
    obtain ⟨rfl, hg, rfl⟩ := hrel
    go_wp2_with fail
    go_end0
    exact ⟨rfl, rfl⟩
set_option maxRecDepth 100000 in
theorem pdq_nil (k : Int) (w : World) : Calls Tryd.prog 53 #[.slice none 0 0, .int .i64 0, .int .i64 0, .int .i64 k, .func (.func 13) #[] #[]] w fun e w' => e = .returned (.tuple #[]) ∧ w = w' := by
  go_enter Tryd.func53, Tryd.ntmps53
  go_wp2_with fail
  go_loopg [1, 2] 1 (fun g s1 s2 wr => s1 = .int .i64 0 ∧ s2 = .int .i64 0 ∧ g = 1 ∧ w = wr)
  case atStart => exact ⟨rfl, rfl, rfl, rfl⟩
  case round =>
    obtain ⟨rfl, rfl, hg, rfl⟩ := hrel
    go_wp2_with fail
    refine (ins_nil _).mono ?_
    rintro e w' ⟨rfl, rfl⟩
    go_wp2_with fail
    refine bodyPost_ret (results_none rfl _ _ _) rfl ?_
    exact ⟨rfl, rfl⟩
set_option maxRecDepth 100000 in
theorem sortfunc_nil (w : World) : Calls Tryd.prog 32 #[.slice none 0 0, .func (.func 13) #[] #[]] w fun e w' => e = .returned (.tuple #[]) ∧ w = w' := by
  go_enter Tryd.func32, Tryd.ntmps32
  go_wp2_with fail
  refine (len_0 _).mono ?_
  rintro e w' ⟨rfl, rfl⟩
  go_wp2_with fail
  refine (pdq_nil _ _).mono ?_
  rintro e w' ⟨rfl, rfl⟩
  go_wp2_with fail
  go_end0
  exact ⟨rfl, rfl⟩
set_option maxRecDepth 100000 in
theorem clone_nil (w : World) : Calls Tryd.prog 31 #[.slice none 0 0] w fun e w' => e = .returned (.slice none 0 0) ∧ w = w' := by
  have hnil : ∀ W : World, Sem.run Tryd.prog (binOp .eql 22 (.slice none 0 0) (.slice none 0 0)) W = .ok (.bool true) W := fun W => by kernel_rfl
  go_enter Tryd.func31, Tryd.ntmps31
  go_wp2_with fail
  go_ret
  exact ⟨rfl, rfl⟩
set_option maxRecDepth 100000 in
set_option maxHeartbeats 400000 in
/-- a copy of no floats -/
theorem clone_0 (ad : Addr) (c : Nat) (w : World) :
    Calls Tryd.prog 31 #[.slice (some ad) 0 c] w fun e w' => ∃ g cap, w.heap.size ≤ g ∧ e = .returned (.slice (some ⟨g, 0, none⟩) 0 cap) ∧ g < w'.heap.size ∧ Below w.heap.size w w' := by
  have hnil : ∀ W : World, Sem.run Tryd.prog (binOp .eql 22 (.slice (some ad) 0 c) (.slice none 0 0)) W = .ok (.bool false) W := fun W => by kernel_rfl
  go_enter Tryd.func31, Tryd.ntmps31
  go_wp2_with (at_builtin; refine wpList_append_row _ rfl (.tmp 5) (.tmp 6) 22 22 rfl w.heap.size 26 (.float .f64 0) 1 8 Tryd.underlying22 info_fl rfl _ 0 _ rfl (emptyRowS w _ _) _ 0 [] rfl (Src.slice Tryd.underlying22 ad 0 c _ rfl (fun j v hv => by simp at hv) (fun v hv => by simp at hv)) ?_ ?_ ?_ ?_)
  · unfold maxLen; omega
  · omega
  · simp
  · intro vv w5 hr5 hg5 hn5
    obtain ⟨_, ⟨h0, _⟩ | ⟨g, cap, cur, fr, rfl, hb, hg, hc, _, hs, hfree, ht⟩⟩ := hr5
    · exact (hn5 h0).elim
    · have hl := (Array.getElem?_eq_some_iff.1 hg).1
      have hbb : Below w.heap.size w w5 := ((Below.refl _ _).alloc (Nat.le_refl _) _).grown hg5 (by simp) (fun k hk => by simp [Value.ownBlock] at hk; omega)
      clear hn5 hg5 hg hs hfree ht
      have HB := Lib.hid hbb
      clear hbb
      go_wp2_with fail
      go_ret
      exact ⟨g, cap, hb, rfl, hl, HB.out⟩
/-- Sort of no floats -/
theorem sort_0 (oa : Option Addr) (c : Nat) (w : World) (ho : oa = none → c = 0) :
    Calls Tryd.prog 8 #[.slice oa 0 c] w fun e w' => ∃ oa' cap, e = .returned (.tuple #[.slice oa' 0 cap, .int .i64 0]) ∧ Below w.heap.size w w' := by
  cases oa with
  | none =>
    obtain rfl := ho rfl
    clear ho
    go_enter Tryd.func8, Tryd.ntmps8
    go_wp2_with fail
    refine (clone_nil _).mono ?_
    rintro e w' ⟨rfl, rfl⟩
    go_wp2_with fail
    refine (sortfunc_nil _).mono ?_
    rintro e w' ⟨rfl, rfl⟩
    go_wp2_with fail
    go_ret2
    exact ⟨none, 0, rfl, Below.refl _ _⟩
  | some ad =>
    clear ho
    go_enter Tryd.func8, Tryd.ntmps8
    go_wp2_with fail
    refine (clone_0 ad c _).mono ?_
    rintro e w1 ⟨g, cap, hg, rfl, hl, hb⟩
    have HB := Lib.hid hb
    have HL := Lib.hid hl
    have HG := Lib.hid hg
    clear hb hl hg
    go_wp2_with fail
    refine (sortfunc_b g cap #[] _ (fun j hj => by simp at hj) HL.out (by decide)).mono ?_
    rintro e w2 ⟨rfl, d', p1, p2, p3, hh2, hg2⟩
    have HG2 := Lib.hid hg2
    clear p1 p2 p3 hh2 hg2
    go_wp2_with fail
    go_ret2
    exact ⟨some ⟨g, 0, none⟩, cap, rfl, HB.out.grown HG2.out HB.out.size (fun k hk => by simp at hk; have := HG.out; omega)⟩
end Go.Proofs.YthfgjibhpenfkaaDoor
