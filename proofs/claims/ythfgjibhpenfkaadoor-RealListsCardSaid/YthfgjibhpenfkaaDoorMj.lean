/- Real: the document's sorting by insertion: the walk. -/
import Derived.Test.YthfgjibhpenfkaaDoorMi
namespace Go.Proofs.YthfgjibhpenfkaaDoor
open Go.RowKit Fl

theorem news1 (w : World) (x : Value) (T : TypeId) : ∀ j u, [x][j]? = some u → (w.alloc (.cells #[x] T)).cell? ((⟨w.heap.size, 0, none⟩ : Addr).add j) = some u := fun j u hu => by
  rw [Go.WideShapes.add_plain, Nat.zero_add, cell_of_row _ _ j _ _ _ (heap_alloc_new w _)]
  simpa using hu
theorem hasRow_heap {w W : World} (h : w.heap = W.heap) {B : Nat} {e : TypeId} {size : Nat} {v : Value} {n : Nat} {xs : List Value} (hr : hasRow w B e size v n xs) : hasRow W B e size v n xs := by
  unfold hasRow at *
  rw [← h]
  exact hr
theorem row_formR {w : World} {B : Nat} {e : TypeId} {size : Nat} {v : Value} {n : Nat} {xs : List Value} (h : hasRow w B e size v n xs) (hn : n ≠ 0) : ∃ g cap, v = .slice (some ⟨g, 0, none⟩) n cap := by
  obtain ⟨_, ⟨_, h0⟩ | ⟨g, c, cu, fr, rfl, _⟩⟩ := h
  · exact absurd h0 hn
  · exact ⟨g, c, rfl⟩
theorem row_anyR {w : World} {B : Nat} {e : TypeId} {size : Nat} {v : Value} {n : Nat} {xs : List Value} (h : hasRow w B e size v n xs) : ∃ oa cap, v = .slice oa n cap := by
  obtain ⟨_, ⟨rfl, rfl⟩ | ⟨g, c, cu, fr, rfl, _⟩⟩ := h
  · exact ⟨_, _, rfl⟩
  · exact ⟨_, _, rfl⟩
theorem row_cellR {w : World} {B : Nat} {e : TypeId} {g cap n j : Nat} {o : Nat → Nat} (h : hasRow w B e 1 (.slice (some ⟨g, 0, none⟩) n cap) n (flL o n)) (hj : j < n) : w.cell? ⟨g, j, none⟩ = some (.float .f64 (o j)) := by
  have := h.cells (g := g) rfl j _ (flL_at o hj)
  rwa [Go.WideShapes.add_plain, Nat.zero_add] at this
theorem row_floats {w : World} {B : Nat} {oa : Option Addr} {cap n : Nat} {o : Nat → Nat} (h : hasRow w B 26 1 (.slice oa n cap) n (flL o n)) (ho : ∀ j, j < n → o j < 18446744073709551616) : FloatsAt w oa n o := fun i hi => by
  obtain ⟨g, cap', he⟩ := row_formR h (by omega)
  simp only [Value.slice.injEq] at he
  obtain ⟨rfl, -, rfl⟩ := he
  have hc := row_cellR h hi
  exact ⟨_, rfl, by rw [Go.WideShapes.add_plain, Nat.zero_add]; exact hc, (h.lt g rfl).2, ho i hi⟩
set_option maxRecDepth 100000 in
set_option maxHeartbeats 1000000 in
theorem refsorted_b (oa : Option Addr) (n c : Nat) (f : Nat → Nat) (w : World) (hf : FloatsAt w oa n f) (hn : n ≤ 300) :
    Calls Tryd.prog 26 #[.slice oa n c] w fun e w' => ∃ ob cap o, e = .returned (.slice ob n cap) ∧ FloatsAt w' ob n o ∧ Rises o n ∧ (∀ y, cnt o y n = cnt f y n) ∧ Below w.heap.size w w' := by
  have HF := Lib.hid hf
  have hsf := run_store_float
  clear hf
  go_enter Tryd.func26, Tryd.ntmps26
  go_wp2_with fail
  go_loopg [3, 4, 5] n (fun g s3 s4 s5 wr => ∃ (i : Nat) (o : Nat → Nat) (ob : Option Addr) (cb : Nat), s4 = .int .i64 i ∧ s3 = .slice ob i cb ∧ g = n - i ∧ i ≤ n ∧ Hid (hasRow wr w.heap.size 26 1 (.slice ob i cb) i (flL o i) ∧ Rises o i ∧ (∀ y, cnt o y i = cnt f y i) ∧ (∀ j, j < i → o j < 18446744073709551616) ∧ Below w.heap.size w wr))
  case atStart => exact ⟨0, fun _ => 0, none, 0, rfl, rfl, by omega, Nat.zero_le _, Lib.hid ⟨⟨rfl, .inl ⟨rfl, rfl⟩⟩, fun a b _ h => absurd h (Nat.not_lt_zero _), fun _ => rfl, fun j hj => absurd hj (Nat.not_lt_zero _), Below.refl _ _⟩⟩
  case round =>
    obtain ⟨i, o, ob, cb, rfl, rfl, hg, hin, HI⟩ := hrel
    by_cases hlt : i < n
    · have hd : decide ((i : Int) < (n : Int)) = true := by simp; omega
      have hi0 : (i : Int) < (n : Int) := by omega
      obtain ⟨ad, rfl, -⟩ := HF.out i hlt
      have cx := (HF.out.below HI.out.2.2.2.2).cell hlt
      have h64 := HF.out.lt hlt
      obtain ⟨fv, hfv⟩ : ∃ v, v = f i := ⟨_, rfl⟩
      rw [← hfv] at cx h64
      have H64 := Lib.hid h64
      have HFV := Lib.hid hfv
      have HLT := Lib.hid hlt
      clear h64 hfv hlt
      go_wp2_with (at_builtin; refine wpList_append_row _ rfl (.tmp 14) (.tmp 19) 22 22 rfl w.heap.size 26 (.float .f64 0) 1 8 Tryd.underlying22 info_fl rfl _ i (flL o i) rfl (HI.out.1.alloc _) _ 1 [.float .f64 fv] rfl (Src.slice Tryd.underlying22 ⟨wr.heap.size, 0, none⟩ 1 1 _ rfl (news1 wr _ _) (fun v hv => by rw [List.mem_singleton.1 hv]; rfl)) ?_ ?_ ?_ ?_)
      · unfold maxLen; omega
      · omega
      · have := HI.out.2.2.2.2.size; simp; omega
      intro vv w5 hr5 hg5 _
      have hb5 : Below w.heap.size w w5 := (HI.out.2.2.2.2.alloc HI.out.2.2.2.2.size _).grown hg5 (by have := HI.out.2.2.2.2.size; simp; omega) (fun k hk => (HI.out.1.lt k hk).1)
      obtain ⟨g5, c5, rfl⟩ := row_formR hr5 (by omega)
      have he5 : flL o i ++ [.float .f64 fv] = flL (insF o i fv) (i + 1) := by
        rw [flL_succ, flL_congr (o := insF o i fv) (o' := o) (n := i) (fun j hj => by unfold insF; rw [if_pos hj])]
        congr 3
        unfold insF
        rw [if_neg (Nat.lt_irrefl _), if_pos rfl]
      rw [he5] at hr5
      have H5 := Lib.hid (And.intro hr5 hb5)
      have HI' : Hid (Rises o i ∧ (∀ y, cnt o y i = cnt f y i) ∧ (∀ j, j < i → o j < 18446744073709551616)) := Lib.hid ⟨HI.out.2.1, HI.out.2.2.1, HI.out.2.2.2.1⟩
      clear hr5 hb5 hg5 he5 HI cx
      go_wp2_with fail
      go_loopg [5] i (fun k5 s5 wx => ∃ a y : Nat, s5 = .int .i64 a ∧ k5 = a ∧ a ≤ i ∧ Hid (hasRow wx w.heap.size 26 1 (.slice (some ⟨g5, 0, none⟩) (i + 1) c5) (i + 1) (flL (insF o a y) (i + 1)) ∧ (∀ j, a ≤ j → j < i → placeW fv < placeW (o j)) ∧ Below w.heap.size w wx))
      case atStart => exact ⟨i, fv, rfl, rfl, Nat.le_refl _, Lib.hid ⟨H5.out.1, fun j a b => absurd a (by omega), H5.out.2⟩⟩
      case round =>
        obtain ⟨a, y, rfl, hga, hai, HJ⟩ := hrel
        have cl := (HF.out.below HJ.out.2.2).cell HLT.out
        rw [← HFV.out] at cl
        have hiI : (a : Int) < (i : Int) + 1 := by omega
        -- the way out: the float is stored at its place
        have fin : (a = 0 ∨ placeW (o (a - 1)) ≤ placeW fv) → Hid (∀ W : World, wr.heap = W.heap → wr.os = W.os → wr.tape = W.tape → wr.output = W.output → (hasRow (W.setCell ⟨g5, a, none⟩ (.float .f64 fv)) w.heap.size 26 1 (.slice (some ⟨g5, 0, none⟩) (i + 1) c5) (i + 1) (flL (insF o a fv) (i + 1)) ∧ Rises (insF o a fv) (i + 1) ∧ (∀ y, cnt (insF o a fv) y (i + 1) = cnt f y (i + 1)) ∧ (∀ j, j < i + 1 → insF o a fv j < 18446744073709551616) ∧ Below w.heap.size w (W.setCell ⟨g5, a, none⟩ (.float .f64 fv)))) := by
          refine fun h0 => Lib.hid fun W e1 e2 e3 e4 => ?_
          have hrow : hasRow W w.heap.size 26 1 (.slice (some ⟨g5, 0, none⟩) (i + 1) c5) (i + 1) (flL (insF o a y) (i + 1)) := hasRow_heap e1 HJ.out.1
          have hset := (row_set (v := .float .f64 fv) hrow (show a < i + 1 by omega)).1
          rw [flL_set, flL_congr (o' := insF o a fv) (fun j hj => by unfold insF; by_cases q : j = a <;> simp [q])] at hset
          refine ⟨hset, insF_rises HI'.out.1 hai h0 HJ.out.2.1, fun y => ?_, fun j hj => ?_, ?_⟩
          · rw [insF_cnt, if_neg (by omega), Nat.add_sub_cancel, HI'.out.2.1 y, HFV.out]
            rfl
          · unfold insF
            split
            · exact HI'.out.2.2 j (by omega)
            · split
              · exact H64.out
              · exact HI'.out.2.2 (j - 1) (by omega)
          · have hb := HJ.out.2.2
            have hbW : Below w.heap.size w W := ⟨e2.symm.trans hb.os, e3.symm.trans hb.tape, e4.symm.trans hb.output, by rw [← e1]; exact hb.size, fun k hk => by rw [← e1]; exact hb.block k hk⟩
            exact hbW.setCell (HJ.out.1.lt g5 rfl).1 _
        have cA := row_cellR HJ.out.1 (show a < i + 1 by omega)
        have fA := (row_set (v := .float .f64 fv) HJ.out.1 (show a < i + 1 by omega)).2
        have hexI : insF o a y a = y := by unfold insF; rw [if_neg (Nat.lt_irrefl _), if_pos rfl]
        rw [hexI] at cA
        clear hexI
        by_cases h0 : a = 0
        · have hd0 : decide (0 < a) = false := by simp; omega
          have FIN := fin (.inl h0)
          clear fin h0
          go_upto_region 7 with fail
          go_quiet (fail)
          go_wp2_with fail
          go_roundg (n - (i + 1))
          case measure => omega
          case rel => exact ⟨i + 1, insF o a fv, _, _, by go_num, rfl, rfl, by omega, Lib.hid (FIN.out _ rfl rfl rfl rfl)⟩
        · have hd0 : decide (0 < a) = true := by simp; omega
          obtain ⟨b, rfl⟩ : ∃ b, a = b + 1 := ⟨a - 1, by omega⟩
          have cB := row_cellR HJ.out.1 (show b < i + 1 by omega)
          have heB : insF o (b + 1) y b = o b := by unfold insF; rw [if_pos (by omega)]
          rw [heB] at cB
          have ho64 : o b < 18446744073709551616 := HI'.out.2.2 b (by omega)
          obtain ⟨ov, hov⟩ : ∃ v, v = o b := ⟨_, rfl⟩
          rw [← hov] at cB ho64
          have HO64 := Lib.hid ho64
          have HOV := Lib.hid hov
          have hab : ((b + 1 : Nat) : Int) - 1 = (b : Int) := by omega
          have hbI : (b : Int) < (i : Int) + 1 := by omega
          have hgt := ordF_gt ov fv
          by_cases hlt : placeW fv < placeW ov
          · have hdo : decide (0 < ordF ov fv) = true := by rw [decide_eq_true_eq, hgt]; exact hlt
            have HLT2 := Lib.hid hlt
            clear fin h0 hlt hgt heB hov ho64
            go_upto_region 7 with fail
            go_quiet (first | (go_at_call 20; refine Calls.quiet_of_same (reforder_q ov fv _ HO64.out H64.out)))
            go_wp2_with fail
            go_roundg b
            case measure => omega
            case rel =>
              refine ⟨b, ov, by go_num, rfl, by omega, Lib.hid ⟨?_, fun j hj hji => ?_, ?_⟩⟩
              · have hset := (row_set (v := .float .f64 ov) (hasRow_heap (W := wr.drewN nq) rfl HJ.out.1) (show b + 1 < i + 1 by omega)).1
                rw [flL_set, flL_congr (o' := insF o b ov) (fun j hj => by
                  rw [HOV.out]; unfold insF
                  by_cases q : j = b + 1
                  · rw [if_pos q, if_neg (by omega), if_neg (by omega), q]; rfl
                  · rw [if_neg q]
                    by_cases q2 : j < b + 1
                    · rw [if_pos q2]
                      by_cases q3 : j = b
                      · rw [if_neg (by omega), if_pos q3, q3]
                      · rw [if_pos (by omega)]
                    · rw [if_neg q2, if_neg q, if_neg (by omega), if_neg (by omega)])] at hset
                exact hset
              · rcases Nat.lt_or_ge b j with h | h
                · exact HJ.out.2.1 j (by omega) hji
                · obtain rfl : j = b := by omega
                  rw [← HOV.out]; exact HLT2.out
              · exact (show Below w.heap.size w (wr.drewN nq) from ⟨HJ.out.2.2.os, HJ.out.2.2.tape, HJ.out.2.2.output, HJ.out.2.2.size, HJ.out.2.2.block⟩).setCell (HJ.out.1.lt g5 rfl).1 _
          · have hdo : decide (0 < ordF ov fv) = false := by rw [decide_eq_false_iff_not, hgt]; exact hlt
            have FIN := fin (.inr (by rw [Nat.add_sub_cancel, ← hov]; omega))
            clear fin h0 hlt hgt heB hov ho64
            go_upto_region 7 with fail
            go_quiet (first | (go_at_call 20; refine Calls.quiet_of_same (reforder_q ov fv _ HO64.out H64.out)))
            go_wp2_with fail
            go_roundg (n - (i + 1))
            case measure => omega
            case rel => exact ⟨i + 1, insF o (b + 1) fv, _, _, by go_num, rfl, rfl, by omega, Lib.hid (FIN.out _ rfl rfl rfl rfl)⟩
    · obtain rfl : i = n := by omega
      have hd : decide ((i : Int) < (i : Int)) = false := by simp
      clear hlt
      go_wp2_with fail
      go_ret
      exact ⟨ob, cb, o, rfl, row_floats HI.out.1 HI.out.2.2.2.1, HI.out.2.1, HI.out.2.2.1, HI.out.2.2.2.2⟩
end Go.Proofs.YthfgjibhpenfkaaDoor
