/- Real: MinFunc, MaxFunc, Least, Greatest, edges. -/
import Derived.Test.YthfgjibhpenfkaaDoorRa
import Derived.Deep.LoopGhost
import Derived.Deep.CutRange
namespace Go.Proofs.YthfgjibhpenfkaaDoor
open Go.RowKit Fl

theorem Addr_zero (a : Addr) : a.add 0 = a := if_pos rfl

set_option maxRecDepth 100000 in
set_option maxHeartbeats 400000 in
theorem minfunc_b (ad : Addr) (n c : Nat) (f : Nat → Nat) (w : World) (hf : FloatsAt w (some ad) n f) (hn : 1 ≤ n) (hm : n ≤ 1000000) :
    Calls Tryd.prog 51 #[.slice (some ad) n c, .func (.func 13) #[] #[]] w fun e w' => e = .returned (.float .f64 (minTo f (n - 1))) ∧ w = w' := by
  have HF := Lib.hid hf
  have hd1 : decide ((n : Int) < 1) = false := by simp; omega
  obtain ⟨ad0, h0, c0, _, _⟩ := hf 0 (by omega)
  obtain rfl := Option.some.inj h0
  have c0' : w.cell? ad = some (.float .f64 (f 0)) := by rw [← Addr_zero ad]; exact c0
  clear hf h0
  go_enter Tryd.func51, Tryd.ntmps51
  go_wp2_with fail
  go_loopg [5, 6] (n - 1) (fun g s5 s6 wr => ∃ k : Nat, s5 = .float .f64 (minTo f (k - 1)) ∧ s6 = .int .i64 k ∧ g = n - k ∧ 1 ≤ k ∧ k ≤ n ∧ wr = w)
  case atStart => exact ⟨1, rfl, rfl, rfl, by omega, hn, rfl⟩
  case round =>
    obtain ⟨k, rfl, rfl, hg, hk1, hk, rfl⟩ := hrel
    by_cases hlt : k < n
    · have hdk : decide ((k : Int) < (n : Int)) = true := by simp; omega
      obtain ⟨ad1, h1, c1, _, hfk⟩ := HF.out k hlt
      obtain rfl := Option.some.inj h1
      have HFK := Lib.hid hfk
      have HMT : Hid (minTo f (k - 1) < 18446744073709551616) := Lib.hid (minTo_lt f (k - 1) fun i hi => by obtain ⟨_, _, _, _, h⟩ := HF.out i (by omega); exact h)
      have HS : Hid (minTo f (k + 1 - 1) = if ordF (f k) (minTo f (k - 1)) < 0 then f k else minTo f (k - 1)) := Lib.hid (by
        obtain ⟨j, rfl⟩ : ∃ j, k = j + 1 := ⟨k - 1, by omega⟩
        rfl)
      clear hfk h1
      by_cases ho : ordF (f k) (minTo f (k - 1)) < 0
      · have HV : Hid (minTo f (k + 1 - 1) = f k) := Lib.hid (by rw [HS.out, if_pos ho])
        have hdo : decide (ordF (f k) (minTo f (k - 1)) < 0) = true := decide_eq_true ho
        clear ho HS
        go_wp2_with fail
        refine (rorder_any (f k) (minTo f (k - 1)) _ HFK.out HMT.out).mono ?_
        rintro e w' ⟨rfl, rfl⟩
        go_wp2_with fail
        go_roundg (n - (k + 1))
        case measure => omega
        case rel => exact ⟨k + 1, by rw [HV.out], by go_num, rfl, by omega, by omega, rfl⟩
      · have HV : Hid (minTo f (k + 1 - 1) = minTo f (k - 1)) := Lib.hid (by rw [HS.out, if_neg ho])
        have hdo : decide (ordF (f k) (minTo f (k - 1)) < 0) = false := decide_eq_false ho
        clear ho HS
        go_wp2_with fail
        refine (rorder_any (f k) (minTo f (k - 1)) _ HFK.out HMT.out).mono ?_
        rintro e w' ⟨rfl, rfl⟩
        go_wp2_with fail
        go_roundg (n - (k + 1))
        case measure => omega
        case rel => exact ⟨k + 1, by rw [HV.out], by go_num, rfl, by omega, by omega, rfl⟩
    · obtain rfl : k = n := by omega
      go_wp2_with fail
      go_ret
      exact ⟨rfl, rfl⟩

set_option maxRecDepth 100000 in
set_option maxHeartbeats 400000 in
theorem maxfunc_b (ad : Addr) (n c : Nat) (f : Nat → Nat) (w : World) (hf : FloatsAt w (some ad) n f) (hn : 1 ≤ n) (hm : n ≤ 1000000) :
    Calls Tryd.prog 52 #[.slice (some ad) n c, .func (.func 13) #[] #[]] w fun e w' => e = .returned (.float .f64 (maxTo f (n - 1))) ∧ w = w' := by
  have HF := Lib.hid hf
  have hd1 : decide ((n : Int) < 1) = false := by simp; omega
  obtain ⟨ad0, h0, c0, _, _⟩ := hf 0 (by omega)
  obtain rfl := Option.some.inj h0
  have c0' : w.cell? ad = some (.float .f64 (f 0)) := by rw [← Addr_zero ad]; exact c0
  clear hf h0
  go_enter Tryd.func52, Tryd.ntmps52
  go_wp2_with fail
  go_loopg [5, 6] (n - 1) (fun g s5 s6 wr => ∃ k : Nat, s5 = .float .f64 (maxTo f (k - 1)) ∧ s6 = .int .i64 k ∧ g = n - k ∧ 1 ≤ k ∧ k ≤ n ∧ wr = w)
  case atStart => exact ⟨1, rfl, rfl, rfl, by omega, hn, rfl⟩
  case round =>
    obtain ⟨k, rfl, rfl, hg, hk1, hk, rfl⟩ := hrel
    by_cases hlt : k < n
    · have hdk : decide ((k : Int) < (n : Int)) = true := by simp; omega
      obtain ⟨ad1, h1, c1, _, hfk⟩ := HF.out k hlt
      obtain rfl := Option.some.inj h1
      have HFK := Lib.hid hfk
      have HMT : Hid (maxTo f (k - 1) < 18446744073709551616) := Lib.hid (maxTo_lt f (k - 1) fun i hi => by obtain ⟨_, _, _, _, h⟩ := HF.out i (by omega); exact h)
      have HS : Hid (maxTo f (k + 1 - 1) = if 0 < ordF (f k) (maxTo f (k - 1)) then f k else maxTo f (k - 1)) := Lib.hid (by
        obtain ⟨j, rfl⟩ : ∃ j, k = j + 1 := ⟨k - 1, by omega⟩
        rfl)
      clear hfk h1
      by_cases ho : 0 < ordF (f k) (maxTo f (k - 1))
      · have HV : Hid (maxTo f (k + 1 - 1) = f k) := Lib.hid (by rw [HS.out, if_pos ho])
        have hdo : decide (0 < ordF (f k) (maxTo f (k - 1))) = true := decide_eq_true ho
        clear ho HS
        go_wp2_with fail
        refine (rorder_any (f k) (maxTo f (k - 1)) _ HFK.out HMT.out).mono ?_
        rintro e w' ⟨rfl, rfl⟩
        go_wp2_with fail
        go_roundg (n - (k + 1))
        case measure => omega
        case rel => exact ⟨k + 1, by rw [HV.out], by go_num, rfl, by omega, by omega, rfl⟩
      · have HV : Hid (maxTo f (k + 1 - 1) = maxTo f (k - 1)) := Lib.hid (by rw [HS.out, if_neg ho])
        have hdo : decide (0 < ordF (f k) (maxTo f (k - 1))) = false := decide_eq_false ho
        clear ho HS
        go_wp2_with fail
        refine (rorder_any (f k) (maxTo f (k - 1)) _ HFK.out HMT.out).mono ?_
        rintro e w' ⟨rfl, rfl⟩
        go_wp2_with fail
        go_roundg (n - (k + 1))
        case measure => omega
        case rel => exact ⟨k + 1, by rw [HV.out], by go_num, rfl, by omega, by omega, rfl⟩
    · obtain rfl : k = n := by omega
      go_wp2_with fail
      go_ret
      exact ⟨rfl, rfl⟩

theorem least_b (ad : Addr) (n c : Nat) (f : Nat → Nat) (w : World) (hf : FloatsAt w (some ad) n f) (hn : 1 ≤ n) (hm : n ≤ 1000000) :
    Calls Tryd.prog 27 #[.slice (some ad) n c] w fun e w' => e = .returned (.tuple #[.float .f64 (minTo f (n - 1)), .bool true]) ∧ w = w' := by
  have hd : ((n : Int) == 0) = false := by simp; omega
  have HF := Lib.hid hf
  have HN := Lib.hid hn
  have HM := Lib.hid hm
  clear hf hn hm
  go_enter Tryd.func27, Tryd.ntmps27
  go_wp2_with fail
  refine (minfunc_b ad n c f _ HF.out HN.out HM.out).mono ?_
  rintro e w' ⟨rfl, rfl⟩
  go_wp2_with fail
  go_ret2
  exact ⟨rfl, rfl⟩

theorem greatest_b (ad : Addr) (n c : Nat) (f : Nat → Nat) (w : World) (hf : FloatsAt w (some ad) n f) (hn : 1 ≤ n) (hm : n ≤ 1000000) :
    Calls Tryd.prog 28 #[.slice (some ad) n c] w fun e w' => e = .returned (.tuple #[.float .f64 (maxTo f (n - 1)), .bool true]) ∧ w = w' := by
  have hd : ((n : Int) == 0) = false := by simp; omega
  have HF := Lib.hid hf
  have HN := Lib.hid hn
  have HM := Lib.hid hm
  clear hf hn hm
  go_enter Tryd.func28, Tryd.ntmps28
  go_wp2_with fail
  refine (maxfunc_b ad n c f _ HF.out HN.out HM.out).mono ?_
  rintro e w' ⟨rfl, rfl⟩
  go_wp2_with fail
  go_ret2
  exact ⟨rfl, rfl⟩
end Go.Proofs.YthfgjibhpenfkaaDoor
