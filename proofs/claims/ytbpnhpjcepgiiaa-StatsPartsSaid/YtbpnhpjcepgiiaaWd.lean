/- StatsParts: the walk. -/
import Derived.Test.YtbpnhpjcepgiiaaWc
import Derived.Test.YtbpnhpjcepgiiaaVf
import Derived.Deep.LoopGhost
import Derived.Deep.CutRange
import Derived.StillTailTactics
namespace Go.Proofs.Ytbpnhpjcepgiiaa
open Go.RowKit Fl

set_option maxRecDepth 100000 in
theorem parts_long (os : Option Addr) (ns cs : Nat) (at_ : Int) (w : World) (h : 300 < ns ∨ ns = 0) :
    Calls Try.prog 9 #[.slice os ns cs, .int .i64 at_] w fun e w' => e = .returned (.bool true) ∧ Below w.heap.size w w' := by
  have hx : decide ((300 : Int) < (ns : Int)) = true ∨ decide ((300 : Int) < (ns : Int)) = false ∧ decide ((ns : Int) < 1) = true := by
    rcases h with h | h
    · exact .inl (by simp; omega)
    · exact .inr ⟨by simp; omega, by simp; omega⟩
  clear h
  rcases hx with hd1 | ⟨hd1, hd2⟩
  · go_enter Try.func9, Try.ntmps9
    go_wp2_with fail
    refine (lworks_any _).mono ?_
    rintro e w9 ⟨rfl, hb9⟩
    go_wp2_with fail
    go_ret
    exact ⟨rfl, hb9⟩
  · go_enter Try.func9, Try.ntmps9
    go_wp2_with fail
    refine (lworks_any _).mono ?_
    rintro e w9 ⟨rfl, hb9⟩
    go_wp2_with fail
    go_ret
    exact ⟨rfl, hb9⟩
theorem order_quiet (x y : Nat) (w : World) (hx : x < 18446744073709551616) (hy : y < 18446744073709551616) :
    Calls Try.prog 48 #[.float .f64 x, .float .f64 y] w fun e w' => e = .returned (.int .i64 (ordF x y)) ∧ w' = w := (reforder_any x y w hx hy).mono fun _ _ ⟨h1, h2⟩ => ⟨h1, h2.symm⟩

theorem not_lt_fi (a b : Int) (ha : a.natAbs < 2 ^ 53) (hb : b.natAbs < 2 ^ 53) (h : a ≤ b) : (FloatKind.f64.format.order (fi b) (fi a) == some .lt) = false ∧ (FloatKind.f64.format.order (fi a) (fi b) == some .gt) = false := by
  rw [ord, ord, order_fi2 b a hb ha, order_fi2 a b ha hb]
  rcases Int.lt_or_eq_of_le h with h | h
  · rw [cmp_lt h, cmp_gt h]; exact ⟨rfl, rfl⟩
  · subst h; rw [cmp_eq]; exact ⟨rfl, rfl⟩
theorem FloatsAt.first {w : World} {oa : Option Addr} {n j : Nat} {f : Nat → Nat} (h : FloatsAt w oa n f) (hj : j ≤ n) : FloatsAt w oa j f := fun i hi => h i (by omega)
theorem FloatsAt.from_ {w : World} {g n j : Nat} {f : Nat → Nat} (h : FloatsAt w (some ⟨g, 0, none⟩) n f) (_ : j ≤ n) : FloatsAt w (some ⟨g, j, none⟩) (n - j) (fun i => f (j + i)) := fun i hi => by
  obtain ⟨ad, h1, h2, h3, h4⟩ := h (j + i) (by omega)
  obtain rfl := Option.some.inj h1
  rw [addg] at h2
  refine ⟨_, rfl, ?_, h3, h4⟩
  have : (⟨g, j, none⟩ : Addr).add i = ⟨g, j + i, none⟩ := by
    unfold Addr.add; split
    · rename_i h0; subst h0; rfl
    · rfl
  rw [this]; exact h2
theorem floats1 (w : World) (a : Nat) (T : TypeId) (ha : a < 18446744073709551616) : FloatsAt (w.alloc (.cells #[.float .f64 a] T)) (some ⟨w.heap.size, 0, none⟩) 1 (fun _ => a) := fun i hi => by
  obtain rfl : i = 0 := by omega
  exact ⟨_, rfl, by rw [addg, cell_of_row _ _ _ _ _ _ (heap_alloc_new w _)]; rfl, by simp, ha⟩
theorem FloatsAt.at_ {w : World} {g n : Nat} {f : Nat → Nat} (h : FloatsAt w (some ⟨g, 0, none⟩) n f) (i : Nat) (hi : i < n) : w.cell? ⟨g, i, none⟩ = some (.float .f64 (f i)) := by
  obtain ⟨ad, h1, h2, _, _⟩ := h i hi
  obtain rfl := Option.some.inj h1
  rwa [addg] at h2
theorem below_q {w1 w w' : World} {q : Nat} (b : Below w1.heap.size w1 w) (g : w.grownBy w' (some q)) (hq : w1.heap.size ≤ q) : Below w1.heap.size w1 w' := b.grown g b.size (fun j hj => by obtain rfl := Option.some.inj hj; exact hq)

set_option maxRecDepth 100000 in
set_option maxHeartbeats 20000000 in
theorem parts_walk (os : Option Addr) (n cs : Nat) (at_ : Int) (G : Nat → Int) (w : World) (hs : Ints32 w os n G) (h1 : 1 ≤ n) (hn : n ≤ 300) :
    Calls Try.prog 9 #[.slice os n cs, .int .i64 at_] w fun e w' => e = .returned (.bool true) ∧ Below w.heap.size w w' := by
  have HS := Lib.hid hs
  have hd1 : decide ((300 : Int) < (n : Int)) = false := by simp; omega
  have hd2 : decide ((n : Int) < 1) = false := by simp; omega
  obtain ⟨m, hm⟩ : ∃ m : Nat → Int, m = fun i => (G i).tmod 1048576 := ⟨_, rfl⟩
  have HM : Hid (∀ i, (G i).tmod 1048576 = m i ∧ (m i).natAbs < 1048576) := Lib.hid (by rw [hm]; exact fun i => ⟨rfl, tmod_bound _⟩)
  -- where the parts meet
  obtain ⟨r, hr⟩ : ∃ r, at_.tmod (n : Int) = r := ⟨_, rfl⟩
  have hrb : -(n : Int) < r ∧ r < n := by
    have e1 := Int.tmod_lt_of_pos at_ (show (0 : Int) < n by omega)
    have e2 := Int.tmod_lt_of_pos (-at_) (show (0 : Int) < n by omega)
    rw [Int.neg_tmod] at e2
    omega
  obtain ⟨kk, hkk⟩ : ∃ kk : Nat, (r + (n : Int)).tmod (n : Int) = (kk : Int) := by
    have := Int.tmod_nonneg (n : Int) (show 0 ≤ r + (n : Int) by omega)
    exact ⟨((r + (n : Int)).tmod (n : Int)).toNat, by omega⟩
  have hkn : kk < n := by
    have e1 := Int.tmod_lt_of_pos (r + (n : Int)) (show (0 : Int) < n by omega)
    omega
  clear hs hm
  go_enter Try.func9, Try.ntmps9
  go_wp2_with fail
  go_loopg [5, 6, 7] n (fun g s5 s6 s7 wx => ∃ k : Nat, s6 = .float .f64 (fi (sumI m k)) ∧ s7 = .int .i64 k ∧ g = n - k ∧ k ≤ n ∧ Hid (hasRow wx w.heap.size 22 1 s5 k (fl (fun i => fi (m i)) k) ∧ Below w.heap.size w wx))
  case atStart => exact ⟨0, rfl, rfl, rfl, Nat.zero_le _, Lib.hid ⟨⟨rfl, .inl ⟨rfl, rfl⟩⟩, Below.refl _ _⟩⟩
  case round =>
    obtain ⟨k, rfl, rfl, hg, hk, HI⟩ := hrel
    by_cases hlt : k < n
    · have hdk : decide ((k : Int) < (n : Int)) = true := by simp; omega
      obtain ⟨ad, ha, c1, _, hlo, hhi⟩ := (HS.out.below HI.out.2) k hlt
      subst ha
      have hb := sumI_bound m k fun i _ => (HM.out i).2
      obtain ⟨hrem, hmb⟩ := HM.out k
      have q1 := add_fi (sumI m k) (m k) (by omega) (by omega)
      obtain ⟨a, ha'⟩ : ∃ a, a = fi (sumI m k) := ⟨_, rfl⟩
      obtain ⟨d, hd'⟩ : ∃ d, d = fi (sumI m k + m k) := ⟨_, rfl⟩
      obtain ⟨x, hx⟩ : ∃ x, x = m k := ⟨_, rfl⟩
      obtain ⟨y, hy⟩ : ∃ y, y = G k := ⟨_, rfl⟩
      rw [← ha', ← hd'] at q1
      rw [← hx] at q1 hmb hrem
      rw [← hy] at c1 hlo hhi hrem
      rw [← ha']
      have HX := Lib.hid (And.intro hd' hx)
      have hcv : floatOfInt .f64 x = fi x := rfl
      have r1 := fun (T : TypeId) (W : World) => run_float_arith (P := Try.prog) W .add T .f64 a (fi x) d q1
      clear ha' hd' hx hy hb q1
      go_wp2_with (at_builtin; refine wpList_append_row _ rfl (.tmp 41) (.tmp 48) 25 25 rfl w.heap.size 22 (.float .f64 0) 1 8 Try.underlying25 info_f64 rfl _ k (fl (fun i => fi (m i)) k) rfl (HI.out.1.alloc _) _ 1 [.float .f64 (fi x)] rfl (Src.slice Try.underlying25 ⟨wr.heap.size, 0, none⟩ 1 1 _ rfl (cell_one_new _ _ _) (by simp [Value.oneCell'])) ?_ ?_ ?_ ?_)
      · unfold maxLen; omega
      · omega
      · have := HI.out.2.size; simp; omega
      · intro v' w5 hr5 hg5 _
        have HI5 : Hid (hasRow w5 w.heap.size 22 1 v' (k + 1) (fl (fun i => fi (m i)) (k + 1)) ∧ Below w.heap.size w w5) := Lib.hid ⟨by rw [fl_succ, ← HX.out.2]; exact hr5, (HI.out.2.alloc HI.out.2.size _).grown hg5 (by have := HI.out.2.size; simp; omega) (fun j hj => (HI.out.1.lt j hj).1)⟩
        obtain ⟨g0, c0, rfl⟩ := row_form hr5 (by omega)
        have cx : w5.cell? ⟨g0, k, none⟩ = some (.float .f64 (fi x)) := by
          have := hr5.cells (g := g0) rfl k (.float .f64 (fi x)) (by rw [List.getElem?_append_right (by rw [fl_len]; exact Nat.le_refl _), fl_len, Nat.sub_self]; rfl)
          rwa [addg] at this
        clear hr5 hg5
        go_wp2_with fail
        go_roundg (n - (k + 1))
        case measure => omega
        case rel => exact ⟨k + 1, by rw [HX.out.1]; rfl, by go_num, rfl, by omega, HI5⟩
    · obtain rfl : k = n := by omega
      have hdk : decide ((k : Int) < (k : Int)) = false := by simp
      obtain ⟨g, cb, rfl⟩ := row_form HI.out.1 (by omega)
      obtain ⟨F, hFd⟩ : ∃ F : Nat → Nat, F = fun i => fi (m i) := ⟨_, rfl⟩
      have hFm : ∀ i, i < k → F i = fi (m i) ∧ (m i).natAbs < 1048576 := by rw [hFd]; exact fun i _ => ⟨rfl, (HM.out i).2⟩
      have hrow := HI.out.1
      rw [← hFd] at hrow
      have hcb : k ≤ cb := by
        obtain ⟨g', h', _, hc'⟩ := (floats_of_row hrow (fun i hi => by rw [(hFm i hi).1]; exact fi_lt _)).2.2 (by omega)
        exact hc'
      have HR := Lib.hid (floats_of_row hrow (fun i hi => by rw [(hFm i hi).1]; exact fi_lt _)).1
      have HFM := Lib.hid hFm
      obtain ⟨S, hS⟩ : ∃ S, S = fi (sumI m k) := ⟨_, rfl⟩
      have HSS := Lib.hid hS
      rw [← hS]
      obtain ⟨w1, hw1⟩ : ∃ w1, w1 = wr := ⟨_, rfl⟩
      subst hw1
      clear hlt hrow hFm hFd hS HS
      go_upto_region 11 with fail
      clear hr hrb hkk
      have W1 : Hid (Below w.heap.size w w1) := Lib.hid HI.out.2
      clear HI
      go_wp2_with fail
      refine (tnew_b _).mono ?_
      rintro e w2 ⟨rfl, t2, b2⟩
      obtain ⟨q1, hq1⟩ : ∃ x, x = w1.heap.size := ⟨_, rfl⟩
      rw [← hq1] at t2 ⊢
      have X2 := Lib.hid (And.intro t2 (And.intro b2 hq1))
      clear t2 b2 hq1
      go_wp2_with fail
      refine (tnew_b _).mono ?_
      rintro e w3 ⟨rfl, t3, b3⟩
      obtain ⟨q2, hq2⟩ : ∃ x, x = w2.heap.size := ⟨_, rfl⟩
      rw [← hq2] at t3 ⊢
      have X3 : Hid (TaAt w3 q1 ⟨0, 0, 0, 0, 0, 0⟩ ∧ TaAt w3 q2 ⟨0, 0, 0, 0, 0, 0⟩ ∧ q1 < q2 ∧ w1.heap.size ≤ q1 ∧ Below w1.heap.size w1 w3) := Lib.hid ⟨X2.out.1.of (b3.block _ X2.out.1.lt), t3, by rw [hq2]; exact X2.out.1.lt, by rw [X2.out.2.2]; exact Nat.le_refl _, X2.out.2.1.trans (b3.mono X2.out.2.1.size)⟩
      clear t3 b3 hq2 X2
      go_wp2_with fail
      refine (tnew_b _).mono ?_
      rintro e w4 ⟨rfl, t4, b4⟩
      obtain ⟨q3, hq3⟩ : ∃ x, x = w3.heap.size := ⟨_, rfl⟩
      rw [← hq3] at t4 ⊢
      have X4 : Hid (TaAt w4 q1 ⟨0, 0, 0, 0, 0, 0⟩ ∧ TaAt w4 q2 ⟨0, 0, 0, 0, 0, 0⟩ ∧ TaAt w4 q3 ⟨0, 0, 0, 0, 0, 0⟩ ∧ q1 < q2 ∧ q2 < q3 ∧ w1.heap.size ≤ q1 ∧ Below w1.heap.size w1 w4) := Lib.hid ⟨X3.out.1.of (b4.block _ X3.out.1.lt), X3.out.2.1.of (b4.block _ X3.out.2.1.lt), t4, X3.out.2.2.1, by rw [hq3]; exact X3.out.2.1.lt, X3.out.2.2.2.1, X3.out.2.2.2.2.trans (b4.mono X3.out.2.2.2.2.size)⟩
      clear t4 b4 hq3 X3
      go_wp2_with fail
      refine (tnew_b _).mono ?_
      rintro e w5 ⟨rfl, t5, b5⟩
      obtain ⟨q4, hq4⟩ : ∃ x, x = w4.heap.size := ⟨_, rfl⟩
      rw [← hq4] at t5 ⊢
      have X5 : Hid (TaAt w5 q1 ⟨0, 0, 0, 0, 0, 0⟩ ∧ TaAt w5 q2 ⟨0, 0, 0, 0, 0, 0⟩ ∧ TaAt w5 q3 ⟨0, 0, 0, 0, 0, 0⟩ ∧ TaAt w5 q4 ⟨0, 0, 0, 0, 0, 0⟩ ∧ (q1 < q2 ∧ q2 < q3 ∧ q3 < q4 ∧ w1.heap.size ≤ q1) ∧ Below w1.heap.size w1 w5) := Lib.hid ⟨X4.out.1.of (b5.block _ X4.out.1.lt), X4.out.2.1.of (b5.block _ X4.out.2.1.lt), X4.out.2.2.1.of (b5.block _ X4.out.2.2.1.lt), t5, ⟨X4.out.2.2.2.1, X4.out.2.2.2.2.1, by rw [hq4]; exact X4.out.2.2.1.lt, X4.out.2.2.2.2.2.1⟩, X4.out.2.2.2.2.2.2.trans (b5.mono X4.out.2.2.2.2.2.2.size)⟩
      clear t5 b5 hq4 X4
      go_wp2_with fail
      refine (wnew_b k _ h1 hn).mono ?_
      rintro e w6 ⟨rfl, t6, b6⟩
      obtain ⟨q5, hq5⟩ : ∃ x, x = w5.heap.size := ⟨_, rfl⟩
      rw [← hq5] at t6 ⊢
      have TT : Hid (TaAt w6 q1 ⟨0, 0, 0, 0, 0, 0⟩ ∧ TaAt w6 q2 ⟨0, 0, 0, 0, 0, 0⟩ ∧ TaAt w6 q3 ⟨0, 0, 0, 0, 0, 0⟩ ∧ TaAt w6 q4 ⟨0, 0, 0, 0, 0, 0⟩ ∧ WinAt w6 q5 (.slice none 0 0) k) := Lib.hid ⟨X5.out.1.of (b6.block _ X5.out.1.lt), X5.out.2.1.of (b6.block _ X5.out.2.1.lt), X5.out.2.2.1.of (b6.block _ X5.out.2.2.1.lt), X5.out.2.2.2.1.of (b6.block _ X5.out.2.2.2.1.lt), t6⟩
      have QQ : Hid (w1.heap.size ≤ q1 ∧ q1 < q2 ∧ q2 < q3 ∧ q3 < q4 ∧ q4 < q5) := Lib.hid ⟨X5.out.2.2.2.2.1.2.2.2, X5.out.2.2.2.2.1.1, X5.out.2.2.2.2.1.2.1, X5.out.2.2.2.2.1.2.2.1, by rw [hq5]; exact X5.out.2.2.2.1.lt⟩
      have B6 : Hid (Below w1.heap.size w1 w6) := Lib.hid (X5.out.2.2.2.2.2.trans (b6.mono X5.out.2.2.2.2.2.size))
      have GG : Hid (g < w1.heap.size) := Lib.hid (by obtain ⟨ad, e1, _, e3, _⟩ := HR.out 0 h1; obtain rfl := Option.some.inj e1; exact e3)
      clear t6 b6 hq5 X5
      go_wp2_with fail
      refine (lnum_any 0 _).mono ?_
      rintro e w' ⟨rfl, rfl⟩
      go_wp2_with fail
      refine (add_any q1 (some ⟨g, 0, none⟩) k cb F ⟨0, 0, 0, 0, 0, 0⟩ _ TT.out.1 zeroOk (HR.out.below B6.out) (fun _ ad h => by obtain rfl := Option.some.inj h; have := GG.out; have := QQ.out; show g ≠ q1; omega) (by omega) (by show (0 : Int) + k < _; omega)).mono ?_
      rintro e w7 ⟨rfl, ta, hia, tat, g7⟩
      have HIA := Lib.hid hia
      have T7 : Hid (TaAt w7 q1 ta ∧ TaAt w7 q2 ⟨0, 0, 0, 0, 0, 0⟩ ∧ TaAt w7 q3 ⟨0, 0, 0, 0, 0, 0⟩ ∧ TaAt w7 q4 ⟨0, 0, 0, 0, 0, 0⟩ ∧ WinAt w7 q5 (.slice none 0 0) k) := Lib.hid ⟨tat, TT.out.2.1.of (g7.block _ TT.out.2.1.lt (by simp; have := QQ.out; omega)), TT.out.2.2.1.of (g7.block _ TT.out.2.2.1.lt (by simp; have := QQ.out; omega)), TT.out.2.2.2.1.of (g7.block _ TT.out.2.2.2.1.lt (by simp; have := QQ.out; omega)), TT.out.2.2.2.2.of (g7.block _ TT.out.2.2.2.2.lt (by simp; have := QQ.out; omega))⟩
      have B7 := Lib.hid (below_q B6.out g7 QQ.out.1)
      clear hia tat g7 TT B6
      go_wp2_with fail
      refine (lnum_any 0 _).mono ?_
      rintro e w' ⟨rfl, rfl⟩
      have hkc : kk ≤ cb := by omega
      go_wp2_with fail
      refine (add_any q2 (some ⟨g, 0, none⟩) kk cb F ⟨0, 0, 0, 0, 0, 0⟩ _ T7.out.2.1 zeroOk ((HR.out.below B7.out).first (Nat.le_of_lt hkn)) (fun _ ad h => by obtain rfl := Option.some.inj h; have := GG.out; have := QQ.out; show g ≠ q2; omega) (by omega) (by show (0 : Int) + kk < _; omega)).mono ?_
      rintro e w8 ⟨rfl, tb, hib, tbt, g8⟩
      have HIB := Lib.hid hib
      have T8 : Hid (TaAt w8 q1 ta ∧ TaAt w8 q2 tb ∧ TaAt w8 q3 ⟨0, 0, 0, 0, 0, 0⟩ ∧ TaAt w8 q4 ⟨0, 0, 0, 0, 0, 0⟩ ∧ WinAt w8 q5 (.slice none 0 0) k) := Lib.hid ⟨T7.out.1.of (g8.block _ T7.out.1.lt (by simp; have := QQ.out; omega)), tbt, T7.out.2.2.1.of (g8.block _ T7.out.2.2.1.lt (by simp; have := QQ.out; omega)), T7.out.2.2.2.1.of (g8.block _ T7.out.2.2.2.1.lt (by simp; have := QQ.out; omega)), T7.out.2.2.2.2.of (g8.block _ T7.out.2.2.2.2.lt (by simp; have := QQ.out; omega))⟩
      have B8 := Lib.hid (below_q B7.out g8 (by have := QQ.out; omega))
      clear hib tbt g8 T7 B7
      go_wp2_with fail
      refine (lnum_any 0 _).mono ?_
      rintro e w' ⟨rfl, rfl⟩
      have hck : ¬ cb = kk := by omega
      go_wp2_with fail
      refine (add_any q3 (some ⟨g, kk, none⟩) (k - kk) (cb - kk) (fun i => F (kk + i)) ⟨0, 0, 0, 0, 0, 0⟩ _ T8.out.2.2.1 zeroOk ((HR.out.below B8.out).from_ (Nat.le_of_lt hkn)) (fun _ ad h => by obtain rfl := Option.some.inj h; have := GG.out; have := QQ.out; show g ≠ q3; omega) (by omega) (by show (0 : Int) + ((k - kk : Nat) : Int) < _; omega)).mono ?_
      rintro e w9 ⟨rfl, tc, hic, tct, g9⟩
      have HIC := Lib.hid hic
      have T9 : Hid (TaAt w9 q1 ta ∧ TaAt w9 q2 tb ∧ TaAt w9 q3 tc ∧ TaAt w9 q4 ⟨0, 0, 0, 0, 0, 0⟩ ∧ WinAt w9 q5 (.slice none 0 0) k) := Lib.hid ⟨T8.out.1.of (g9.block _ T8.out.1.lt (by simp; have := QQ.out; omega)), T8.out.2.1.of (g9.block _ T8.out.2.1.lt (by simp; have := QQ.out; omega)), tct, T8.out.2.2.2.1.of (g9.block _ T8.out.2.2.2.1.lt (by simp; have := QQ.out; omega)), T8.out.2.2.2.2.of (g9.block _ T8.out.2.2.2.2.lt (by simp; have := QQ.out; omega))⟩
      have B9 := Lib.hid (below_q B8.out g9 (by have := QQ.out; omega))
      have NBC : Hid (tb.n = kk ∧ tc.n = ((k - kk : Nat) : Int) ∧ TaOk tb ∧ TaOk tc) := Lib.hid (by
        have h1 := HIB.out.ok zeroOk (fun i hi => by rw [(HFM.out i (by omega)).1]; exact fi_lt _)
        have h2 := hic.ok zeroOk (fun i hi => by rw [(HFM.out (kk + i) (by omega)).1]; exact fi_lt _)
        exact ⟨by rw [h1.2]; show (0 : Int) + kk = kk; omega, by rw [h2.2]; show (0 : Int) + ((k - kk : Nat) : Int) = _; omega, h1.1, h2.1⟩)
      clear hic tct g9 T8 B8
      go_wp2_with fail
      refine (lnum_any 0 _).mono ?_
      rintro e w' ⟨rfl, rfl⟩
      go_wp2_with fail
      refine (merge_any q2 q3 tb tc _ T9.out.2.1 T9.out.2.2.1 (by rw [NBC.out.1, NBC.out.2.1]; omega) NBC.out.2.2.1 NBC.out.2.2.2).mono ?_
      rintro e w10 ⟨rfl, tm, hmm, tmt, g10⟩
      have HTM : Hid (tm.n = k ∧ tm.sum = fi (sumI m k) ∧ ∃ l g, tm.least = fi l ∧ tm.greatest = fi g ∧ MM m k l g) := Lib.hid (two_tally HIB.out HIC.out HFM.out hkn hn hmm)
      have T10 : Hid (TaAt w10 q1 ta ∧ TaAt w10 q2 tm ∧ TaAt w10 q4 ⟨0, 0, 0, 0, 0, 0⟩ ∧ WinAt w10 q5 (.slice none 0 0) k) := Lib.hid ⟨T9.out.1.of (g10.block _ T9.out.1.lt (by simp; have := QQ.out; omega)), tmt, T9.out.2.2.2.1.of (g10.block _ T9.out.2.2.2.1.lt (by simp; have := QQ.out; omega)), T9.out.2.2.2.2.of (g10.block _ T9.out.2.2.2.2.lt (by simp; have := QQ.out; omega))⟩
      have B10 := Lib.hid (below_q B9.out g10 (by have := QQ.out; omega))
      clear hmm tmt g10 T9 B9
      go_wp2_with fail
      refine (lnum_any 0 _).mono ?_
      rintro e w' ⟨rfl, rfl⟩
      have clk := (HR.out.below B10.out).at_ kk hkn
      rw [(HFM.out kk hkn).1] at clk
      obtain ⟨lk, hlk⟩ : ∃ lk, lk = fi (m kk) := ⟨_, rfl⟩
      rw [← hlk] at clk
      have HLK := Lib.hid hlk
      clear hlk
      go_wp2_with fail
      have TA10 : Hid (TaAt (w10.alloc (.cells #[.float .f64 lk] 22)) q4 ⟨0, 0, 0, 0, 0, 0⟩) := Lib.hid (T10.out.2.2.1.of (Below.heap_alloc _ _ _ T10.out.2.2.1.lt))
      refine (add_any q4 (some ⟨w10.heap.size, 0, none⟩) 1 1 (fun _ => lk) ⟨0, 0, 0, 0, 0, 0⟩ _ TA10.out zeroOk (floats1 w10 lk _ (by rw [HLK.out]; exact fi_lt _)) (fun _ ad h => by obtain rfl := Option.some.inj h; have := T10.out.2.2.1.lt; show w10.heap.size ≠ q4; omega) (by decide) (by decide)).mono ?_
      rintro e w11 ⟨rfl, t1, hi1, t1t, g11⟩
      have HT1 : Hid (t1.n = 1 ∧ t1.mean = lk ∧ t1.m = 0 ∧ t1.least = lk ∧ t1.greatest = lk) := Lib.hid (by
        have := one_tally (m kk) (HFM.out kk hkn).2 hi1 HLK.out
        rw [← HLK.out] at this
        exact this)
      have b10 := (Below.refl w10.heap.size w10).alloc (Nat.le_refl _) (.cells #[.float .f64 lk] 22)
      have T11 : Hid (TaAt w11 q1 ta ∧ TaAt w11 q2 tm ∧ TaAt w11 q4 t1 ∧ WinAt w11 q5 (.slice none 0 0) k) := Lib.hid ⟨(T10.out.1.of (b10.block _ T10.out.1.lt)).of (g11.block _ (Nat.lt_of_lt_of_le T10.out.1.lt b10.size) (by simp; have := QQ.out; omega)), (T10.out.2.1.of (b10.block _ T10.out.2.1.lt)).of (g11.block _ (Nat.lt_of_lt_of_le T10.out.2.1.lt b10.size) (by simp; have := QQ.out; omega)), t1t, (T10.out.2.2.2.of (b10.block _ T10.out.2.2.2.lt)).of (g11.block _ (Nat.lt_of_lt_of_le T10.out.2.2.2.lt b10.size) (by simp; have := QQ.out; omega))⟩
      have B11 := Lib.hid (below_q (B10.out.alloc B10.out.size (.cells #[.float .f64 lk] 22)) g11 (by have := QQ.out; omega))
      have HTA : Hid (ta.n = k ∧ ta.sum = fi (sumI m k) ∧ ∃ l g, ta.least = fi l ∧ ta.greatest = fi g ∧ MM m k l g) := Lib.hid (whole_tally HIA.out HFM.out h1 hn)
      clear hi1 t1t g11 b10 TA10 T10 B10 clk
      go_wp2_with fail
      refine (lnum_any 0 _).mono ?_
      rintro e w' ⟨rfl, rfl⟩
      -- what is told
      obtain ⟨l, hl⟩ : ∃ l, ∃ gg, ta.least = fi l ∧ ta.greatest = fi gg ∧ MM m k l gg := HTA.out.2.2
      obtain ⟨gg, hl1, hl2, hmm⟩ := hl
      obtain ⟨l', gg', hm1, hm2, hmm'⟩ := HTM.out.2.2
      obtain ⟨rfl, rfl⟩ := hmm.unique hmm'
      obtain ⟨bl, bg⟩ := hmm.bound (fun i hi => (HFM.out i hi).2)
      obtain ⟨le, hle⟩ : ∃ le, le = fi l := ⟨_, rfl⟩
      obtain ⟨gr, hgr⟩ : ∃ gr, gr = fi gg := ⟨_, rfl⟩
      have oS : FloatKind.f64.format.order S S = some .eq := by rw [HSS.out]; exact order_fi _ (by have := sumI_bound m k fun i hi => (HFM.out i hi).2; omega)
      have oL : FloatKind.f64.format.order le le = some .eq := by rw [hle]; exact order_fi _ (by omega)
      have oG : FloatKind.f64.format.order gr gr = some .eq := by rw [hgr]; exact order_fi _ (by omega)
      have oK : FloatKind.f64.format.order lk lk = some .eq := by rw [HLK.out]; exact order_fi _ (by have := (HFM.out kk hkn).2; omega)
      have oZ : FloatKind.f64.format.order 0 0 = some .eq := by decide +kernel
      have HLG := Lib.hid (And.intro hle (And.intro hgr (And.intro hmm (And.intro bl bg))))
      have HE : Hid (ta.sum = S ∧ ta.least = le ∧ ta.greatest = gr ∧ tm.sum = S ∧ tm.least = le ∧ tm.greatest = gr) := Lib.hid ⟨by rw [HTA.out.2.1, HSS.out], by rw [hl1, hle], by rw [hl2, hgr], by rw [HTM.out.2.1, HSS.out], by rw [hm1, hle], by rw [hm2, hgr]⟩
      clear hle hgr hmm hmm' bl bg hl1 hl2 hm1 hm2
      have hsf := run_store_float
      go_wp2_with fail
      refine (told_any q1 ta _ T11.out.1 (by rw [HTA.out.1]; omega)).mono ?_
      rintro e w12 ⟨sp1, -, rfl, b12⟩
      unfold Ta.told
      rw [HE.out.1, HE.out.2.1, HE.out.2.2.1, HTA.out.1]
      have HB12 := Lib.hid b12
      clear b12
      go_upto_region 18 with fail
      obtain ⟨w13, hw13⟩ : ∃ x, x = w12.alloc (.cells #[.int .i64 k, .float .f64 S, .float .f64 ta.mean, .float .f64 sp1, .float .f64 le, .float .f64 gr] 92) := ⟨_, rfl⟩
      obtain ⟨p1, hp1⟩ : ∃ x, x = w12.heap.size := ⟨_, rfl⟩
      have P13 : Hid (w13.heap[p1]? = some (.cells #[.int .i64 k, .float .f64 S, .float .f64 ta.mean, .float .f64 sp1, .float .f64 le, .float .f64 gr] 92 (0, 0)) ∧ Below w11.heap.size w11 w13) := Lib.hid ⟨by rw [hw13, hp1]; exact heap_alloc_new _ _, by rw [hw13]; exact HB12.out.alloc HB12.out.size _⟩
      rw [← hw13, ← hp1]
      have T13 : Hid (TaAt w13 q2 tm ∧ TaAt w13 q4 t1 ∧ WinAt w13 q5 (.slice none 0 0) k) := Lib.hid ⟨T11.out.2.1.of (P13.out.2.block _ T11.out.2.1.lt), T11.out.2.2.1.of (P13.out.2.block _ T11.out.2.2.1.lt), T11.out.2.2.2.of (P13.out.2.block _ T11.out.2.2.2.lt)⟩
      have B13 : Hid (Below w1.heap.size w1 w13) := Lib.hid (B11.out.trans (P13.out.2.mono B11.out.size))
      clear hw13 hp1 T11 HB12
      go_wp2_with fail
      refine (told_any q2 tm _ T13.out.1 (by rw [HTM.out.1]; omega)).mono ?_
      rintro e w14 ⟨sp2, -, rfl, b14⟩
      unfold Ta.told
      rw [HE.out.2.2.2.1, HE.out.2.2.2.2.1, HE.out.2.2.2.2.2, HTM.out.1]
      have HB14 := Lib.hid b14
      clear b14
      go_upto_region 19 with fail
      obtain ⟨w15, hw15⟩ : ∃ x, x = w14.alloc (.cells #[.int .i64 k, .float .f64 S, .float .f64 tm.mean, .float .f64 sp2, .float .f64 le, .float .f64 gr] 92) := ⟨_, rfl⟩
      obtain ⟨p2, hp2⟩ : ∃ x, x = w14.heap.size := ⟨_, rfl⟩
      have P15 : Hid (w15.heap[p2]? = some (.cells #[.int .i64 k, .float .f64 S, .float .f64 tm.mean, .float .f64 sp2, .float .f64 le, .float .f64 gr] 92 (0, 0)) ∧ Below w13.heap.size w13 w15) := Lib.hid ⟨by rw [hw15, hp2]; exact heap_alloc_new _ _, by rw [hw15]; exact HB14.out.alloc HB14.out.size _⟩
      rw [← hw15, ← hp2]
      have T15 : Hid (TaAt w15 q4 t1 ∧ WinAt w15 q5 (.slice none 0 0) k) := Lib.hid ⟨T13.out.2.1.of (P15.out.2.block _ T13.out.2.1.lt), T13.out.2.2.of (P15.out.2.block _ T13.out.2.2.lt)⟩
      have B15 : Hid (Below w1.heap.size w1 w15) := Lib.hid (B13.out.trans (P15.out.2.mono B13.out.size))
      have R15 := Lib.hid ((P15.out.2.block p1 (Array.getElem?_eq_some_iff.1 P13.out.1).1).trans P13.out.1)
      clear hw15 hp2 T13 HB14 P13 B13
      go_wp2_with fail
      refine (told_any q4 t1 _ T15.out.1 (by rw [HT1.out.1]; decide)).mono ?_
      rintro e w16 ⟨sp3, hsp3, rfl, b16⟩
      have hs3 : sp3 = 0 := by
        rw [HT1.out.2.2.1, HT1.out.1] at hsp3
        exact spread_one sp3 hsp3
      subst hs3
      unfold Ta.told
      rw [HT1.out.2.1, HT1.out.2.2.2.1, HT1.out.2.2.2.2, HT1.out.1]
      have HB16 := Lib.hid b16
      clear b16 hsp3
      go_upto_region 20 with fail
      obtain ⟨w17, hw17⟩ : ∃ x, x = w16.alloc (.cells #[.int .i64 1, .float .f64 t1.sum, .float .f64 lk, .float .f64 0, .float .f64 lk, .float .f64 lk] 92) := ⟨_, rfl⟩
      obtain ⟨p3, hp3⟩ : ∃ x, x = w16.heap.size := ⟨_, rfl⟩
      have P17 : Hid (w17.heap[p3]? = some (.cells #[.int .i64 1, .float .f64 t1.sum, .float .f64 lk, .float .f64 0, .float .f64 lk, .float .f64 lk] 92 (0, 0)) ∧ Below w15.heap.size w15 w17) := Lib.hid ⟨by rw [hw17, hp3]; exact heap_alloc_new _ _, by rw [hw17]; exact HB16.out.alloc HB16.out.size _⟩
      rw [← hw17, ← hp3]
      have T17 : Hid (WinAt w17 q5 (.slice none 0 0) k) := Lib.hid (T15.out.2.of (P17.out.2.block _ T15.out.2.lt))
      have B17 : Hid (Below w1.heap.size w1 w17) := Lib.hid (B15.out.trans (P17.out.2.mono B15.out.size))
      have R17 := Lib.hid ((P17.out.2.block p1 (Array.getElem?_eq_some_iff.1 R15.out).1).trans R15.out)
      have S17 := Lib.hid ((P17.out.2.block p2 (Array.getElem?_eq_some_iff.1 P15.out.1).1).trans P15.out.1)
      clear hw17 hp3 T15 HB16 P15 R15 B15
      obtain ⟨a0, a1, -, -, a4, a5, -⟩ := cells6 R17.out
      obtain ⟨b0, b1, -, -, b4, b5, -⟩ := cells6 S17.out
      obtain ⟨-, -, c2, c3, c4, c5, -⟩ := cells6 P17.out.1
      have clk := (HR.out.below B17.out).at_ kk hkn
      rw [(HFM.out kk hkn).1, ← HLK.out] at clk
      go_upto_region 20 with fail
      go_cut [235] from 155 to 235 (fun s235 wx => s235 = .bool false ∧ ∃ nq, wx = w17.drewN nq)
      case first =>
        --(
        as_aux_lemma =>
        go_wp2_with fail
        simp only [List.append_eq, List.cons_append, List.nil_append]
        go_quiet (first | (go_at_call 35; refine Calls.quiet_of_same (lnum_quiet 0 _)))
        go_wp2_with fail
        go_meet
        exact ⟨rfl, _, rfl⟩
        --)
      case rest =>
      obtain ⟨rfl, nq, hw18⟩ := hcut
      obtain ⟨w18, hw18b⟩ : ∃ x, x = wc := ⟨_, rfl⟩
      subst hw18b
      clear a0 b0 b1 b4 b5 c2 c3 c4 c5
      have X18 : Hid (WinAt w18 q5 (.slice none 0 0) k ∧ w18.heap[p1]? = some (.cells #[.int .i64 k, .float .f64 S, .float .f64 ta.mean, .float .f64 sp1, .float .f64 le, .float .f64 gr] 92 (0, 0)) ∧ Below w1.heap.size w1 w18) := Lib.hid (by rw [hw18]; exact ⟨⟨T17.out.at_⟩, R17.out, B17.out.os, B17.out.tape, B17.out.output, B17.out.size, B17.out.block⟩)
      clear hw18 T17 R17 S17 P17 B17 B11 a1 a4 a5 clk oK oZ HT1 HTM HE
      have P15 : Hid (p1 ≠ q5 ∧ p1 < w18.heap.size ∧ q5 < w18.heap.size ∧ g ≠ q5 ∧ g < w18.heap.size ∧ w1.heap.size ≤ q5) := Lib.hid ⟨fun e => by
        have h1 := X18.out.1.at_
        rw [← e, X18.out.2.1] at h1
        simp only [Option.some.injEq, Obj.cells.injEq] at h1
        exact absurd h1.2.1 (by decide), (Array.getElem?_eq_some_iff.1 X18.out.2.1).1, X18.out.1.lt, by have := GG.out; have := QQ.out; omega, Nat.lt_of_lt_of_le GG.out X18.out.2.2.size, by have := QQ.out; omega⟩
      go_wp2_with fail
      go_loopg [21] k (fun k0 s21 wx => ∃ i : Nat, s21 = .int .i64 i ∧ k0 = k - i ∧ i ≤ k ∧ ∃ v, Hid (WinAt wx q5 v k ∧ hasRow wx w18.heap.size 22 1 v i (fl F i) ∧ Stay w18 wx w18.heap.size q5))
      case atStart => exact ⟨0, rfl, rfl, Nat.zero_le _, _, Lib.hid ⟨X18.out.1, ⟨rfl, .inl ⟨rfl, rfl⟩⟩, Stay.refl _ _ _⟩⟩
      case round =>
        obtain ⟨i, rfl, hgi, hi, v, HI⟩ := hrel
        have FR : Hid (FloatsAt wr (some ⟨g, 0, none⟩) k F) := Lib.hid (fun j hj => by
          obtain ⟨ad, e1, e2, e3, e4⟩ := (HR.out.below X18.out.2.2) j hj
          obtain rfl := Option.some.inj e1
          refine ⟨_, rfl, ?_, Nat.lt_of_lt_of_le e3 HI.out.2.2.size, e4⟩
          rw [addg] at e2 ⊢
          rw [World.cell?_of_block (w := w18) (HI.out.2.2.block g P15.out.2.2.2.2.1 P15.out.2.2.2.1)]
          exact e2)
        obtain ⟨-, -, -, -, a4, a5, -⟩ := cells6 ((HI.out.2.2.block p1 P15.out.2.1 P15.out.1).trans X18.out.2.1)
        by_cases hlt : i < k
        · have hdi : decide ((i : Int) < (k : Int)) = true := by simp; omega
          have cx := FR.out.at_ i hlt
          rw [(HFM.out i hlt).1] at cx
          have hmi := (HFM.out i hlt).2
          have hall := HLG.out.2.2.1.all i hlt
          have o1 := (not_lt_fi l (m i) (by have := HLG.out.2.2.2.1; omega) (by omega) hall.1).1
          have o2 := (not_lt_fi (m i) gg (by omega) (by have := HLG.out.2.2.2.2; omega) hall.2).2
          rw [← HLG.out.1] at o1
          rw [← HLG.out.2.1] at o2
          obtain ⟨x, hx⟩ : ∃ x, x = fi (m i) := ⟨_, rfl⟩
          rw [← hx] at cx o1 o2
          have HX : Hid (x = F i) := Lib.hid (by rw [hx, (HFM.out i hlt).1])
          clear hx hmi hall
          go_upto_region 25 with fail
          go_cut [267] from 242 to 267 (fun s267 wx => s267 = .bool false ∧ ∃ v', Hid (WinAt wx q5 v' k ∧ hasRow wx w18.heap.size 22 1 v' (i + 1) (fl F (i + 1)) ∧ Stay w18 wx w18.heap.size q5))
          case first =>
            --(
            as_aux_lemma =>
            have HID : Hid (WinAt wr.drew q5 v k ∧ hasRow wr.drew w18.heap.size 22 1 v i (fl F i) ∧ w18.heap.size ≤ wr.drew.heap.size ∧ Stay w18 wr.drew w18.heap.size q5) := Lib.hid ⟨HI.out.1.of (by rfl), HI.out.2.1, HI.out.2.2.size, HI.out.2.2.trans ⟨rfl, rfl, rfl, Nat.le_refl _, fun _ _ _ => rfl⟩⟩
            go_still_tail 22, (by kernel_rfl)
            change wpList _ _ _ _ _ wr.drew
            obtain ⟨w2, hw2⟩ : ∃ x, x = wr.drew := ⟨_, rfl⟩
            rw [← hw2] at HID ⊢
            clear hw2 HI FR a4 a5 cx
            go_wp2_with fail
            refine (wadd_b q5 k i x w18.heap.size v F _ HID.out.1 HID.out.2.1 hlt hn HID.out.2.2.1).mono ?_
            rintro e w19 ⟨rfl, v', hwin, hrw, hst⟩
            have HW : Hid (WinAt w19 q5 v' k ∧ hasRow w19 w18.heap.size 22 1 v' (i + 1) (fl F (i + 1)) ∧ Stay w18 w19 w18.heap.size q5) := Lib.hid ⟨hwin, by rw [fl_succ, ← HX.out]; exact hrw, HID.out.2.2.2.trans hst⟩
            clear hwin hrw hst
            go_wp2_with fail
            refine (lnum_any 0 _).mono ?_
            rintro e w' ⟨rfl, rfl⟩
            go_wp2_with fail
            go_meet
            exact ⟨rfl, v', HW⟩
            --)
          case rest =>
          obtain ⟨rfl, v', HI'⟩ := hcut
          go_wp2_with fail
          go_roundg (k - (i + 1))
          case measure => omega
          case rel => exact ⟨i + 1, by go_num, rfl, by omega, v', HI'⟩
        · obtain rfl : i = k := by omega
          have hdi : decide ((i : Int) < (i : Int)) = false := by simp
          obtain ⟨g5, c5, rfl⟩ := row_form HI.out.2.1 (by omega)
          have HF5 := Lib.hid (floats_of_row HI.out.2.1 (fun j hj => by rw [(HFM.out j hj).1]; exact fi_lt _)).1
          obtain ⟨z, hz, _, hzn⟩ := div_fi (sumI m i) i (by have := sumI_bound m i fun j hj => (HFM.out j hj).2; omega) (by omega) (by omega)
          have HZ := Lib.hid hz
          have oz : FloatKind.f64.format.order z z = some .eq := by rw [ord, order_self, if_pos hzn]
          rw [← HSS.out] at hz
          obtain ⟨y, hy⟩ : ∃ y, y = i2r i := ⟨_, rfl⟩
          rw [← hy] at hz
          have hcv : floatOfInt .f64 (i : Int) = y := by rw [hy, floatOfInt_nat]
          have r1 := fun (T : TypeId) (W : World) => run_float_arith (P := Try.prog) W .quo T .f64 S y z hz
          clear hz hy hzn hlt
          go_wp2_with fail
          refine (wmean_b q5 i c5 g5 z F m _ HI.out.1 HF5.out HFM.out h1 hn HZ.out).mono ?_
          rintro e w20 ⟨rfl, b20⟩
          have HB20 := Lib.hid b20
          clear b20
          go_wp2_with fail
          refine (wsorted_b q5 i c5 g5 F _ (HI.out.1.of (HB20.out.block _ HI.out.1.lt)) (HF5.out.below HB20.out) h1 hn).mono ?_
          rintro e w21 ⟨gs, cs', -, rfl, hcell, -, b21⟩
          have B21 : Hid (Below wr.heap.size wr w21) := Lib.hid (HB20.out.trans (b21.mono HB20.out.size))
          have W21 : Hid (WinAt w21 q5 (.slice (some ⟨g5, 0, none⟩) i c5) i) := Lib.hid (HI.out.1.of (B21.out.block _ HI.out.1.lt))
          have ends := sF_ends HFM.out h1 HLG.out.2.2.1
          have e0 := hcell 0 (by omega)
          have e1 := hcell (i - 1) (by omega)
          rw [ends.1, ← HLG.out.1] at e0
          rw [ends.2, ← HLG.out.2.1] at e1
          have HC := Lib.hid hcell
          have d4 : w21.cell? ⟨p1, 4, none⟩ = some (.float .f64 le) := by rw [B21.out.cell (p := ⟨p1, 4, none⟩) (World.block_lt_of_cell? wr _ a4)]; exact a4
          have d5 : w21.cell? ⟨p1, 5, none⟩ = some (.float .f64 gr) := by rw [B21.out.cell (p := ⟨p1, 5, none⟩) (World.block_lt_of_cell? wr _ a5)]; exact a5
          have hi1 : ((i : Int) - 1).toNat = i - 1 := by omega
          clear b21 hcell ends a4 a5
          go_upto_region 29 with fail
          go_cut [319] from 275 to 319 (fun s319 wx => s319 = .bool false ∧ ∃ nq, wx = w21.drewN nq)
          case first =>
            as_aux_lemma =>
            go_quiet (first
              | (go_at_call 35; refine Calls.quiet_of_same (lnum_quiet 0 _))
              | (go_at_call 53; refine Calls.quiet_of_same (wlen_b q5 i (some ⟨g5, 0, none⟩) i c5 _ (W21.out.of rfl) h1)))
            go_wp2_with fail
            go_meet
            exact ⟨rfl, _, rfl⟩
          case rest =>
          obtain ⟨rfl, n1, hw22⟩ := hcut
          subst hw22
          have BWR : Hid (Below w.heap.size w w21) := Lib.hid (by
            have bq : Below w.heap.size w w18 := W1.out.trans (X18.out.2.2.mono W1.out.size)
            have bwr : Below w.heap.size w wr := HI.out.2.2.below bq bq.size (by have := P15.out; have := W1.out.size; omega)
            exact bwr.trans (B21.out.mono bwr.size))
          clear e0 e1 d4 d5
          go_wp2_with fail
          go_loopg [25] (i - 1) (fun k0 s25 wx => ∃ t : Nat, s25 = .int .i64 ((t : Int) + 1) ∧ k0 = i - 1 - t ∧ t + 1 ≤ i ∧ Hid (Below w21.heap.size w21 wx))
          case atStart => exact ⟨0, rfl, by omega, by omega, Lib.hid (below_drewN _)⟩
          case round =>
            obtain ⟨t, rfl, hgt, ht, BW⟩ := hrel
            by_cases htl : t + 1 < i
            · have hdt : decide ((t : Int) + 1 < (i : Int)) = true := by simp; omega
              have hti : t < i := by omega
              have hti2 : decide ((t : Int) < (i : Int)) = true := by simp; omega
              have hto : ((t : Int) + 1).toNat = t + 1 := by omega
              have hti3 : (t : Int) + 1 < (i : Int) := by omega
              have hwt : IntKind.i64.wrap (t : Int) = (t : Int) := IntWalk.i64_in _ (by omega)
              have hti4 : (0 : Int) ≤ (t : Int) + 1 := by omega
              have c1 : wr.cell? ⟨gs, t, none⟩ = _ := (BW.out.cell (p := ⟨gs, t, none⟩) (World.block_lt_of_cell? w21 _ (HC.out t hti))).trans (HC.out t hti)
              have c2 : wr.cell? ⟨gs, t + 1, none⟩ = _ := (BW.out.cell (p := ⟨gs, t + 1, none⟩) (World.block_lt_of_cell? w21 _ (HC.out (t + 1) htl))).trans (HC.out (t + 1) htl)
              have hle := sF_le F i t (t + 1) (by omega) htl
              obtain ⟨u, hu⟩ : ∃ u, u = (sF F i)[t]! := ⟨_, rfl⟩
              obtain ⟨v, hv⟩ : ∃ v, v = (sF F i)[t + 1]! := ⟨_, rfl⟩
              rw [← hu] at c1 hle
              rw [← hv] at c2 hle
              have o3 : decide (0 < ordF u.1 v.1) = false := by
                have := ordF_gt u.1 v.1
                simp only [decide_eq_false_iff_not]
                omega
              have HUV := Lib.hid (And.intro u.2 v.2)
              obtain ⟨uu, huu⟩ : ∃ uu, uu = u.1 := ⟨_, rfl⟩
              obtain ⟨vv, hvv⟩ : ∃ vv, vv = v.1 := ⟨_, rfl⟩
              rw [← huu] at c1 o3 HUV
              rw [← hvv] at c2 o3 HUV
              clear hu hv hle huu hvv
              go_upto_region 34 with fail

              go_quiet (first | (go_at_call 48; refine Calls.quiet_of_same (order_quiet uu vv _ HUV.out.1 HUV.out.2)))
              go_wp2_with fail
              go_roundg (i - 1 - (t + 1))
              case measure => omega
              case rel => exact ⟨t + 1, by go_num, rfl, by omega, Lib.hid ⟨BW.out.os, BW.out.tape, BW.out.output, BW.out.size, BW.out.block⟩⟩
            · have hdt : decide ((t : Int) + 1 < (i : Int)) = false := by simp; omega
              go_wp2_with fail
              refine (lworks_any _).mono ?_
              rintro e w23 ⟨rfl, b23⟩
              go_wp2_with fail
              go_ret
              have b22 : Below w.heap.size w wr := BWR.out.trans (BW.out.mono BWR.out.size)
              exact ⟨rfl, b22.trans (b23.mono b22.size)⟩
end Go.Proofs.Ytbpnhpjcepgiiaa
