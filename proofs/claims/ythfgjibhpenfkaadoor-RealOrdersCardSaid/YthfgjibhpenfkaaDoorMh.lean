/- Real: the document's order and search; two lists alike. -/
import Derived.Test.YthfgjibhpenfkaaDoorMd
namespace Go.Proofs.YthfgjibhpenfkaaDoor
open Go.RowKit Fl

theorem reforder_any (x y : Nat) (w : World) (hx : x < 18446744073709551616) (hy : y < 18446744073709551616) :
    Calls Tryd.prog 20 #[.float .f64 x, .float .f64 y] w fun e w' => e = .returned (.int .i64 (ordF x y)) ∧ w = w' := by
  have HX := Lib.hid hx
  have HY := Lib.hid hy
  have HV := Lib.hid (show ordF x y = if placeW x < placeW y then -1 else if placeW y < placeW x then 1 else 0 from rfl)
  obtain ⟨px, hpx⟩ : ∃ px, px = placeW x := ⟨_, rfl⟩
  obtain ⟨py, hpy⟩ : ∃ py, py = placeW y := ⟨_, rfl⟩
  have HPX := Lib.hid hpx
  have HPY := Lib.hid hpy
  have key : (px < py ∧ ordF x y = -1) ∨ (¬ px < py ∧ py < px ∧ ordF x y = 1) ∨ (¬ px < py ∧ ¬ py < px ∧ ordF x y = 0) := by
    rw [HV.out, ← hpx, ← hpy]
    by_cases h1 : px < py
    · exact .inl ⟨h1, if_pos h1⟩
    · by_cases h2 : py < px
      · exact .inr (.inl ⟨h1, h2, by rw [if_neg h1, if_pos h2]⟩)
      · exact .inr (.inr ⟨h1, h2, by rw [if_neg h1, if_neg h2]⟩)
  clear hx hy hpx hpy
  rcases key with ⟨h1, h2⟩ | ⟨h1, h3, h2⟩ | ⟨h1, h3, h2⟩
  · have hd1 : decide (px < py) = true := decide_eq_true h1
    have H2 := Lib.hid h2
    clear h1 h2
    go_enter Tryd.func20, Tryd.ntmps20
    go_wp2_with fail
    refine (place_any x _ HX.out).mono ?_
    rintro e w' ⟨rfl, rfl⟩
    rw [← HPX.out]
    go_wp2_with fail
    refine (place_any y _ HY.out).mono ?_
    rintro e w' ⟨rfl, rfl⟩
    rw [← HPY.out]
    go_wp2_with fail
    go_ret
    exact ⟨ret_int H2.out.symm, rfl⟩
  · have hd1 : decide (px < py) = false := decide_eq_false h1
    have hd2 : decide (py < px) = true := decide_eq_true h3
    have H2 := Lib.hid h2
    clear h1 h2
    go_enter Tryd.func20, Tryd.ntmps20
    go_wp2_with fail
    refine (place_any x _ HX.out).mono ?_
    rintro e w' ⟨rfl, rfl⟩
    rw [← HPX.out]
    go_wp2_with fail
    refine (place_any y _ HY.out).mono ?_
    rintro e w' ⟨rfl, rfl⟩
    rw [← HPY.out]
    go_wp2_with fail
    go_ret
    exact ⟨ret_int H2.out.symm, rfl⟩
  · have hd1 : decide (px < py) = false := decide_eq_false h1
    have hd2 : decide (py < px) = false := decide_eq_false h3
    have H2 := Lib.hid h2
    clear h1 h2
    go_enter Tryd.func20, Tryd.ntmps20
    go_wp2_with fail
    refine (place_any x _ HX.out).mono ?_
    rintro e w' ⟨rfl, rfl⟩
    rw [← HPX.out]
    go_wp2_with fail
    refine (place_any y _ HY.out).mono ?_
    rintro e w' ⟨rfl, rfl⟩
    rw [← HPY.out]
    go_wp2_with fail
    go_ret
    exact ⟨ret_int H2.out.symm, rfl⟩
theorem reforder_q (x y : Nat) (w : World) (hx : x < 18446744073709551616) (hy : y < 18446744073709551616) :
    Calls Tryd.prog 20 #[.float .f64 x, .float .f64 y] w fun e w' => e = .returned (.int .i64 (ordF x y)) ∧ w' = w := (reforder_any x y w hx hy).mono fun _ _ ⟨h1, h2⟩ => ⟨h1, h2.symm⟩
theorem reflike_q (x y : Nat) (w : World) (hx : x < 18446744073709551616) (hy : y < 18446744073709551616) :
    Calls Tryd.prog 21 #[.float .f64 x, .float .f64 y] w fun e w' => e = .returned (.bool (placeW x == placeW y)) ∧ w' = w := (reflike_any x y w hx hy).mono fun _ _ ⟨h1, h2⟩ => ⟨h1, h2.symm⟩
theorem FloatsAt.cell {w : World} {ad : Addr} {n i : Nat} {f : Nat → Nat} (h : FloatsAt w (some ad) n f) (hi : i < n) : w.cell? (ad.add i) = some (.float .f64 (f i)) := by
  obtain ⟨_, h1, h2, _⟩ := h i hi
  obtain rfl := Option.some.inj h1
  exact h2
theorem FloatsAt.lt {w : World} {oa : Option Addr} {n i : Nat} {f : Nat → Nat} (h : FloatsAt w oa n f) (hi : i < n) : f i < 18446744073709551616 := by
  obtain ⟨_, _, _, _, h4⟩ := h i hi
  exact h4
theorem search_same {f : Nat → Nat} {n x a b : Nat} (r : Rises f n) (ha : SearchIs f n x a) (hb : SearchIs f n x b) : a = b := by
  rcases Nat.lt_trichotomy a b with h | h | h
  · have h1 := hb.below r a h
    have h2 := ha.above r (by have := hb.le; omega)
    omega
  · exact h
  · have h1 := ha.below r b h
    have h2 := hb.above r (by have := ha.le; omega)
    omega
set_option maxRecDepth 100000 in
set_option maxHeartbeats 400000 in
/-- the document's search, one by one -/
theorem refsearch_b (oa : Option Addr) (n c x : Nat) (f : Nat → Nat) (w : World) (hf : FloatsAt w oa n f) (hn : n ≤ 1000000) (hx : x < 18446744073709551616) :
    Calls Tryd.prog 30 #[.slice oa n c, .float .f64 x] w fun e w' => ∃ at_, SearchIs f n x at_ ∧ e = .returned (.tuple #[.int .i64 at_, .bool (foundB f n x at_)]) ∧ w = w' := by
  have HF := Lib.hid hf
  have HX := Lib.hid hx
  clear hf hx
  go_enter Tryd.func30, Tryd.ntmps30
  go_wp2_with fail
  go_loopg [6] n (fun g s6 wr => ∃ i : Nat, s6 = .int .i64 i ∧ g = n - i ∧ i ≤ n ∧ w = wr ∧ Hid (∀ j, j < i → placeW (f j) < placeW x))
  case atStart => exact ⟨0, rfl, by omega, Nat.zero_le _, rfl, Lib.hid fun j hj => absurd hj (Nat.not_lt_zero j)⟩
  case round =>
    obtain ⟨i, rfl, hg, hin, rfl, HI⟩ := hrel
    by_cases hlt : i < n
    · have hd : decide ((i : Int) < (n : Int)) = true := by simp; omega
      have hi0 : (i : Int) < (n : Int) := by omega
      obtain ⟨ad, rfl, -⟩ := HF.out i hlt
      have cx := HF.out.cell hlt
      have h64 := HF.out.lt hlt
      obtain ⟨fv, hfv⟩ : ∃ v, v = f i := ⟨_, rfl⟩
      rw [← hfv] at cx h64
      have H64 := Lib.hid h64
      have hor := ordF_lt fv x
      by_cases ho : placeW fv < placeW x
      · have hdo : decide (0 ≤ ordF fv x) = false := by rw [decide_eq_false_iff_not, Int.not_le, hor]; exact ho
        have HI2 : Hid (∀ j, j < i + 1 → placeW (f j) < placeW x) := Lib.hid fun j hj => by
          rcases Nat.lt_or_ge j i with h | h
          · exact HI.out j h
          · obtain rfl : j = i := by omega
            rw [← hfv]; exact ho
        clear ho hor h64 hfv
        go_wp2_with fail
        refine (reforder_any fv x _ H64.out HX.out).mono ?_
        rintro e w' ⟨rfl, rfl⟩
        go_wp2_with fail
        go_roundg (n - (i + 1))
        case measure => omega
        case rel => exact ⟨i + 1, by go_num, rfl, by omega, rfl, HI2⟩
      · have hdo : decide (0 ≤ ordF fv x) = true := by rw [decide_eq_true_eq, ← Int.not_lt, hor]; exact ho
        have HS : Hid (SearchIs f n x i ∧ (placeW fv == placeW x) = foundB f n x i) := Lib.hid ⟨⟨hin, fun _ => HI.out, fun _ _ => by rw [← hfv]; omega⟩, by unfold foundB; rw [← hfv]; simp [hlt]⟩
        clear ho hor h64 hfv
        go_wp2_with fail
        refine (reforder_any fv x _ H64.out HX.out).mono ?_
        rintro e w' ⟨rfl, rfl⟩
        go_wp2_with fail
        refine (reflike_any fv x _ H64.out HX.out).mono ?_
        rintro e w' ⟨rfl, rfl⟩
        go_wp2_with fail
        go_ret2
        exact ⟨i, HS.out.1, by rw [← HS.out.2]; rfl, rfl⟩
    · obtain rfl : i = n := by omega
      have hd : decide ((i : Int) < (i : Int)) = false := by simp
      clear hlt
      go_wp2_with fail
      go_ret2
      refine ⟨i, ⟨Nat.le_refl _, fun _ => HI.out, fun _ h => absurd h (Nat.lt_irrefl _)⟩, ?_, rfl⟩
      have : foundB f i x i = false := by unfold foundB; simp
      rw [this]
      rfl
set_option maxRecDepth 100000 in
set_option maxHeartbeats 400000 in
theorem alike_b (oa ob : Option Addr) (n c c' : Nat) (f g : Nat → Nat) (w : World) (hf : FloatsAt w oa n f) (hg : FloatsAt w ob n g) (hn : n ≤ 1000000) (heq : ∀ i, i < n → placeW (f i) = placeW (g i)) :
    Calls Tryd.prog 29 #[.slice oa n c, .slice ob n c'] w fun e w' => e = .returned (.bool true) ∧ w.heap = w'.heap ∧ Below w.heap.size w w' := by
  have HF := Lib.hid hf
  have HG := Lib.hid hg
  have HE := Lib.hid heq
  clear hf hg heq
  go_enter Tryd.func29, Tryd.ntmps29
  go_wp2_with fail
  go_loopg [5] n (fun g0 s5 wr => ∃ i : Nat, s5 = .int .i64 i ∧ g0 = n - i ∧ i ≤ n ∧ Hid (w.heap = wr.heap ∧ Below w.heap.size w wr))
  case atStart => exact ⟨0, rfl, by omega, Nat.zero_le _, Lib.hid ⟨rfl, Below.refl _ _⟩⟩
  case round =>
    obtain ⟨i, rfl, hgi, hin, HI⟩ := hrel
    by_cases hlt : i < n
    · have hd : decide ((i : Int) < (n : Int)) = true := by simp; omega
      have hi0 : (i : Int) < (n : Int) := by omega
      obtain ⟨ad, rfl, -⟩ := HF.out i hlt
      obtain ⟨bd, rfl, -⟩ := HG.out i hlt
      have cx := (HF.out.below HI.out.2).cell hlt
      have cy := (HG.out.below HI.out.2).cell hlt
      have hE : (placeW (f i) == placeW (g i)) = true := by rw [HE.out i hlt]; simp
      have h64 := And.intro (HF.out.lt hlt) (HG.out.lt hlt)
      obtain ⟨fv, hfv⟩ : ∃ v, v = f i := ⟨_, rfl⟩
      obtain ⟨gv, hgv⟩ : ∃ v, v = g i := ⟨_, rfl⟩
      rw [← hfv] at cx h64 hE
      rw [← hgv] at cy h64 hE
      have H64 := Lib.hid h64
      clear h64 hfv hgv hlt
      go_upto_region 4 with fail
      go_quiet (first | (go_at_call 21; refine Calls.quiet_of_same (reflike_q fv gv _ H64.out.1 H64.out.2)))
      go_wp2_with fail
      go_roundg (n - (i + 1))
      case measure => omega
      case rel => exact ⟨i + 1, by go_num, rfl, by omega, Lib.hid ⟨HI.out.1, HI.out.2.os, HI.out.2.tape, HI.out.2.output, HI.out.2.size, HI.out.2.block⟩⟩
    · obtain rfl : i = n := by omega
      have hd : decide ((i : Int) < (i : Int)) = false := by simp
      clear hlt
      go_wp2_with fail
      go_ret
      exact ⟨rfl, HI.out.1, HI.out.2⟩
end Go.Proofs.YthfgjibhpenfkaaDoor
