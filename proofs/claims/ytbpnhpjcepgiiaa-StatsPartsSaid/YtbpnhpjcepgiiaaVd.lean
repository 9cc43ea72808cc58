/- Stats: Boxes of three steps. -/
import Derived.Test.YtbpnhpjcepgiiaaVc
import Derived.OwnWalk
import Derived.WalkMore
namespace Go.Proofs.Ytbpnhpjcepgiiaa
open Go.RowKit Fl

theorem info_i64 : (Try.prog.info? 2).map (fun i => (i.zero, i.size, i.bytes)) = some (some (.int .i64 0), 1, 8) := by kernel_rfl
def stepF (i : Nat) : Nat := if i = 0 then 13830554455654793216 else if i = 1 then 0 else 4607182418800017408
theorem made_four : (madeCells (Value.int .i64 0).cells (4 * 1)).toList = [.int .i64 0, .int .i64 0, .int .i64 0, .int .i64 0] := by kernel_rfl
theorem setd0 {W : World} {A : Nat} {a b c d : Value} {T : TypeId} (h : W.heap[A]? = some (.cells #[a, b, c, d] T (0, 0))) (x : Value) : (W.setCell ⟨A, 0, none⟩ x).heap[A]? = some (.cells #[x, b, c, d] T (0, 0)) := by
  show (W.heap.modify A _)[A]? = _
  rw [Array.getElem?_modify, if_pos rfl, h]
  rfl
theorem setd1 {W : World} {A : Nat} {a b c d : Value} {T : TypeId} (h : W.heap[A]? = some (.cells #[a, b, c, d] T (0, 0))) (x : Value) : (W.setCell ⟨A, 1, none⟩ x).heap[A]? = some (.cells #[a, x, c, d] T (0, 0)) := by
  show (W.heap.modify A _)[A]? = _
  rw [Array.getElem?_modify, if_pos rfl, h]
  rfl
theorem setd2 {W : World} {A : Nat} {a b c d : Value} {T : TypeId} (h : W.heap[A]? = some (.cells #[a, b, c, d] T (0, 0))) (x : Value) : (W.setCell ⟨A, 2, none⟩ x).heap[A]? = some (.cells #[a, b, x, d] T (0, 0)) := by
  show (W.heap.modify A _)[A]? = _
  rw [Array.getElem?_modify, if_pos rfl, h]
  rfl
theorem setd3 {W : World} {A : Nat} {a b c d : Value} {T : TypeId} (h : W.heap[A]? = some (.cells #[a, b, c, d] T (0, 0))) (x : Value) : (W.setCell ⟨A, 3, none⟩ x).heap[A]? = some (.cells #[a, b, c, x] T (0, 0)) := by
  show (W.heap.modify A _)[A]? = _
  rw [Array.getElem?_modify, if_pos rfl, h]
  rfl
theorem cells4 {W : World} {A : Nat} {a b c d : Value} {T : TypeId} (h : W.heap[A]? = some (.cells #[a, b, c, d] T (0, 0))) :
    W.cell? ⟨A, 0, none⟩ = some a ∧ W.cell? ⟨A, 1, none⟩ = some b ∧ W.cell? ⟨A, 2, none⟩ = some c ∧ W.cell? ⟨A, 3, none⟩ = some d ∧ ∀ k, W.frozen? ⟨A, k, none⟩ = false := by
  refine ⟨?_, ?_, ?_, ?_, fun k => ?_⟩ <;> simp [World.cell?, World.frozen?, h]
set_option maxRecDepth 100000 in
set_option maxHeartbeats 2000000 in
theorem boxes_b (g n c : Nat) (oa : Option Addr) (f : Nat → Nat) (w : World) (hg : w.heap[g]? = some (.cells #[.float .f64 13830554455654793216, .float .f64 0, .float .f64 4607182418800017408] 22 (0, 0))) (hf : FloatsAt w oa n f) (hn : n ≤ 300) :
    Calls Try.prog 46 #[.slice (some ⟨g, 0, none⟩) 3 3, .slice oa n c] w fun e w' => ∃ b : Nat, ∃ n0 n1 n2 n3 : Nat, e = .returned (.tuple #[.slice (some ⟨b, 0, none⟩) 4 4, .int .i64 0]) ∧ w.heap.size ≤ b ∧ w'.heap[b]? = some (.cells #[.int .i64 n0, .int .i64 n1, .int .i64 n2, .int .i64 n3] 2 (0, 0)) ∧ n0 + n1 + n2 + n3 = n ∧ Below w.heap.size w w' := by
  have HF := Lib.hid hf
  have HGG := Lib.hid hg
  have hd : decide ((65536 : Int) < (n : Int)) = false := by simp; omega
  have heq0 : ∀ W : World, Sem.run Try.prog (Op.equalIn 9999 22 (.float .f64 13830554455654793216) (.float .f64 13830554455654793216)) W = .ok true W := fun W => by kernel_rfl
  have heq1 : ∀ W : World, Sem.run Try.prog (Op.equalIn 9999 22 (.float .f64 0) (.float .f64 0)) W = .ok true W := fun W => by kernel_rfl
  have heq2 : ∀ W : World, Sem.run Try.prog (Op.equalIn 9999 22 (.float .f64 4607182418800017408) (.float .f64 4607182418800017408)) W = .ok true W := fun W => by kernel_rfl
  have s0 : w.cell? ⟨g, 0, none⟩ = some (.float .f64 13830554455654793216) := by simp [World.cell?, hg]
  have s1 : w.cell? ⟨g, 1, none⟩ = some (.float .f64 0) := by simp [World.cell?, hg]
  have s2 : w.cell? ⟨g, 2, none⟩ = some (.float .f64 4607182418800017408) := by simp [World.cell?, hg]
  clear hf hg
  go_enter Try.func46, Try.ntmps46
  go_wp2_with fail
  go_step3
  go_wp2_with fail
  go_loopg [15] 3 (fun k0 s15 wr => ∃ i : Nat, s15 = .int .i64 i ∧ k0 = 3 - i ∧ i ≤ 3 ∧ w = wr)
  case atStart => exact ⟨0, rfl, rfl, by omega, rfl⟩
  case round =>
    obtain ⟨i, rfl, hgi, hi, rfl⟩ := hrel
    have h4 : i = 0 ∨ i = 1 ∨ i = 2 ∨ i = 3 := by omega
    rcases h4 with rfl | rfl | rfl | rfl
    · go_wp2_with fail
      go_roundg 2
      case measure => omega
      case rel => exact ⟨1, rfl, rfl, by omega, rfl⟩
    · go_wp2_with fail
      refine (rorder_any 13830554455654793216 0 _ (by decide) (by decide)).mono ?_
      rintro e w' ⟨rfl, rfl⟩
      rw [show ordF 13830554455654793216 0 = -1 by decide]
      go_wp2_with fail
      go_roundg 1
      case measure => omega
      case rel => exact ⟨2, rfl, rfl, by omega, rfl⟩
    · go_wp2_with fail
      refine (rorder_any 0 4607182418800017408 _ (by decide) (by decide)).mono ?_
      rintro e w' ⟨rfl, rfl⟩
      rw [show ordF 0 4607182418800017408 = -1 by decide]
      go_wp2_with fail
      go_roundg 0
      case measure => omega
      case rel => exact ⟨3, rfl, rfl, by omega, rfl⟩
    · obtain ⟨ib, hib, hibz, hibs, hibb⟩ := info_parts info_i64
      go_wp2_with (at_make; refine wpList_make_full _ rfl _ _ _ rfl w.heap.size 2 ib (.int .i64 0) 1 Try.underlying26 hib hibz hibs .i64 .i64 4 4 4 rfl rfl rfl rfl (by rw [hibb]; decide) (by decide) (Nat.le_refl _) ?_; intro w3 hown hg3)
      have hrow : w3.heap[w.heap.size]? = some (.cells #[.int .i64 0, .int .i64 0, .int .i64 0, .int .i64 0] 2 (0, 0)) := by
        obtain ⟨_, h | ⟨g', cap, cur, hv, _, hg', _, _, hs, ht⟩⟩ := hown
        · simp at h
        · simp only [Value.slice.injEq, Option.some.injEq, Addr.mk.injEq] at hv
          obtain ⟨⟨rfl, _⟩, _, rfl⟩ := hv
          rw [List.take_of_length_le (by simp [hs])] at ht
          rw [hg']
          congr 2
          exact Array.toList_inj.1 (by rw [ht]; exact made_four)
      have HROW := Lib.hid hrow
      have HG3 := Lib.hid hg3
      clear hown hrow hg3 hib hibz hibs hibb
      go_wp2_with fail
      go_step3
      go_wp2_with fail
      have hBg : ¬ w.heap.size = g := fun e => by have := (Array.getElem?_eq_some_iff.1 HGG.out).1; omega
      have hBg2 : ¬ g = w.heap.size := fun e => hBg e.symm
      go_loopg [52] n (fun k0 s52 wx => ∃ k n0 n1 n2 n3 : Nat, s52 = .int .i64 k ∧ k0 = n - k ∧ k ≤ n ∧ n0 + n1 + n2 + n3 = k ∧ Hid (wx.heap[w.heap.size]? = some (.cells #[.int .i64 n0, .int .i64 n1, .int .i64 n2, .int .i64 n3] 2 (0, 0)) ∧ w3.grownBy wx (some w.heap.size)))
      case atStart => exact ⟨0, 0, 0, 0, 0, rfl, rfl, Nat.zero_le _, rfl, Lib.hid ⟨HROW.out, World.grownBy.refl _ _⟩⟩
      case round =>
        obtain ⟨k, n0, n1, n2, n3, rfl, hgk, hk, hsum, HO⟩ := hrel
        have HB : Hid (Below w.heap.size w wr) := Lib.hid (((Below.refl w.heap.size w).grown HG3.out (Nat.le_refl _) (fun k hk => by cases hk)).grown HO.out.2 HG3.out.size (fun k hk => by obtain rfl := Option.some.inj hk; exact Nat.le_refl _))
        by_cases hlt : k < n
        · have hdk : decide ((k : Int) < (n : Int)) = true := by simp; omega
          obtain ⟨ad, ha, cx, _, hx64⟩ := (HF.out.below HB.out) k hlt
          subst ha
          obtain ⟨x, hx⟩ : ∃ x, x = f k := ⟨_, rfl⟩
          rw [← hx] at cx hx64
          have HX := Lib.hid hx64
          have z0 : wr.cell? ⟨g, 0, none⟩ = some (.float .f64 13830554455654793216) := by rw [HB.out.cell (p := ⟨g, 0, none⟩) (World.block_lt_of_cell? w _ s0)]; exact s0
          have z1 : wr.cell? ⟨g, 1, none⟩ = some (.float .f64 0) := by rw [HB.out.cell (p := ⟨g, 1, none⟩) (World.block_lt_of_cell? w _ s1)]; exact s1
          have z2 : wr.cell? ⟨g, 2, none⟩ = some (.float .f64 4607182418800017408) := by rw [HB.out.cell (p := ⟨g, 2, none⟩) (World.block_lt_of_cell? w _ s2)]; exact s2
          obtain ⟨b0, b1, b2, b3, bfr⟩ := cells4 HO.out.1
          obtain ⟨wo, hwo⟩ : ∃ wo, wo = wr := ⟨_, rfl⟩
          subst hwo
          clear hx64 hx
          go_wp2_with fail
          go_loopg [58] 3 (fun k0 s58 wx => ∃ i : Nat, s58 = .int .i64 i ∧ k0 = 3 - i ∧ i ≤ 3 ∧ wo = wx)
          case atStart => exact ⟨0, rfl, rfl, by omega, rfl⟩
          case round =>
          obtain ⟨i, rfl, hgi, hi, rfl⟩ := hrel
          have h4 : i = 0 ∨ i = 1 ∨ i = 2 ∨ i = 3 := by omega
          rcases h4 with rfl | rfl | rfl | rfl
          · by_cases hlt0 : ordF x 13830554455654793216 < 0
            · have hdl : decide (ordF x 13830554455654793216 < 0) = true := decide_eq_true hlt0
              go_wp2_with fail
              refine (rorder_any x 13830554455654793216 _ HX.out (by decide)).mono ?_
              rintro e w' ⟨rfl, rfl⟩
              go_wp2_with fail
              go_roundg (n - (k + 1))
              case measure => omega
              case rel => exact ⟨k + 1, n0 + 1, n1, n2, n3, by go_num, rfl, by omega, by omega, Lib.hid ⟨by have := setd0 HO.out.1 (.int .i64 ((n0 : Int) + 1)); exact this, grown_trans HO.out.2 (grown_setCell _ _ _ _)⟩⟩
            · have hdl : decide (ordF x 13830554455654793216 < 0) = false := decide_eq_false hlt0
              go_wp2_with fail
              refine (rorder_any x 13830554455654793216 _ HX.out (by decide)).mono ?_
              rintro e w' ⟨rfl, rfl⟩
              go_wp2_with fail
              go_roundg 2
              case measure => omega
              case rel => exact ⟨1, rfl, rfl, by omega, rfl⟩
          · by_cases hlt1 : ordF x 0 < 0
            · have hdl : decide (ordF x 0 < 0) = true := decide_eq_true hlt1
              go_wp2_with fail
              refine (rorder_any x 0 _ HX.out (by decide)).mono ?_
              rintro e w' ⟨rfl, rfl⟩
              go_wp2_with fail
              go_roundg (n - (k + 1))
              case measure => omega
              case rel => exact ⟨k + 1, n0, n1 + 1, n2, n3, by go_num, rfl, by omega, by omega, Lib.hid ⟨by have := setd1 HO.out.1 (.int .i64 ((n1 : Int) + 1)); exact this, grown_trans HO.out.2 (grown_setCell _ _ _ _)⟩⟩
            · have hdl : decide (ordF x 0 < 0) = false := decide_eq_false hlt1
              go_wp2_with fail
              refine (rorder_any x 0 _ HX.out (by decide)).mono ?_
              rintro e w' ⟨rfl, rfl⟩
              go_wp2_with fail
              go_roundg 1
              case measure => omega
              case rel => exact ⟨2, rfl, rfl, by omega, rfl⟩
          · by_cases hlt2 : ordF x 4607182418800017408 < 0
            · have hdl : decide (ordF x 4607182418800017408 < 0) = true := decide_eq_true hlt2
              go_wp2_with fail
              refine (rorder_any x 4607182418800017408 _ HX.out (by decide)).mono ?_
              rintro e w' ⟨rfl, rfl⟩
              go_wp2_with fail
              go_roundg (n - (k + 1))
              case measure => omega
              case rel => exact ⟨k + 1, n0, n1, n2 + 1, n3, by go_num, rfl, by omega, by omega, Lib.hid ⟨by have := setd2 HO.out.1 (.int .i64 ((n2 : Int) + 1)); exact this, grown_trans HO.out.2 (grown_setCell _ _ _ _)⟩⟩
            · have hdl : decide (ordF x 4607182418800017408 < 0) = false := decide_eq_false hlt2
              go_wp2_with fail
              refine (rorder_any x 4607182418800017408 _ HX.out (by decide)).mono ?_
              rintro e w' ⟨rfl, rfl⟩
              go_wp2_with fail
              go_roundg 0
              case measure => omega
              case rel => exact ⟨3, rfl, rfl, by omega, rfl⟩
          · go_wp2_with fail
            go_roundg (n - (k + 1))
            case measure => omega
            case rel => exact ⟨k + 1, n0, n1, n2, n3 + 1, by go_num, rfl, by omega, by omega, Lib.hid ⟨by have := setd3 HO.out.1 (.int .i64 ((n3 : Int) + 1)); exact this, grown_trans HO.out.2 (grown_setCell _ _ _ _)⟩⟩
        · obtain rfl : k = n := by omega
          have hdk : decide ((k : Int) < (k : Int)) = false := by simp
          go_wp2_with fail
          try rw [Exit.noGoto_ret]
          go_ret2
          exact ⟨w.heap.size, n0, n1, n2, n3, rfl, Nat.le_refl _, HO.out.1, hsum, HB.out⟩
end Go.Proofs.Ytbpnhpjcepgiiaa
