/- StatsLag: the walk; the arguments opened. -/
import Derived.Test.YtbpnhpjcepgiiaaSj
import Derived.Test.YtbpnhpjcepgiiaaQu
namespace Go.Proofs.Ytbpnhpjcepgiiaa
open Go.RowKit Fl

theorem LagIs.lt {n : Nat} {fm fp : Nat → Int} {s : Int} {z : Nat} {e : Int} (h : LagIs n fm fp s z e) : z < 18446744073709551616 := by
  rcases h with ⟨_, _, rfl, _⟩ | ⟨_, _, _, rfl, _⟩ | ⟨_, _, _, rfl, _⟩ | ⟨ha, h0, h1, _, rfl, _⟩
  · decide
  · decide
  · decide
  · exact (meanL_some fm fp n ha h0 h1).2
theorem lag_ne (am ap : Option Addr) (n m cm cp : Nat) (w : World) (h : n ≠ m) :
    Calls Try.prog 32 #[.slice am n cm, .slice ap m cp] w fun e w' => e = .returned (.tuple #[.int .i64 0, .float .f64 0, .int .i64 2]) ∧ w = w' := by
  have hd : ((n : Int) == (m : Int)) = false := by simp; omega
  clear h
  go_enter Try.func32, Try.ntmps32
  go_wp2_with fail
  go_ret3
  exact ⟨rfl, rfl⟩
theorem rlag_ne (am ap : Option Addr) (n m cm cp : Nat) (w : World) (h : n ≠ m) :
    Calls Try.prog 33 #[.slice am n cm, .slice ap m cp] w fun e w' => e = .returned (.tuple #[.int .i64 0, .float .f64 0, .int .i64 2]) ∧ w = w' := by
  have hd : ((n : Int) == (m : Int)) = false := by simp; omega
  clear h
  go_enter Try.func33, Try.ntmps33
  go_wp2_with fail
  go_ret3
  exact ⟨rfl, rfl⟩

set_option maxRecDepth 100000 in
set_option maxHeartbeats 1000000 in
theorem slag_long1 (am ap : Option Addr) (nm np cm cp : Nat) (w : World) (h : 40 < nm) :
    Calls Try.prog 6 #[.slice am nm cm, .slice ap np cp] w fun e w' => e = .returned (.bool true) ∧ Below w.heap.size w w' := by
  have hd1 : decide ((40 : Int) < (nm : Int)) = true := by simp; omega
  clear h
  go_enter Try.func6, Try.ntmps6
  go_wp2_with fail
  refine (lworks_any _).mono ?_
  rintro e w9 ⟨rfl, hb9⟩
  go_wp2_with fail
  go_ret
  exact ⟨rfl, hb9⟩

set_option maxRecDepth 100000 in
set_option maxHeartbeats 1000000 in
theorem slag_long2 (am ap : Option Addr) (nm np cm cp : Nat) (w : World) (h1 : nm ≤ 40) (h : 40 < np) :
    Calls Try.prog 6 #[.slice am nm cm, .slice ap np cp] w fun e w' => e = .returned (.bool true) ∧ Below w.heap.size w w' := by
  have hd1 : decide ((40 : Int) < (nm : Int)) = false := by simp; omega
  have hd2 : decide ((40 : Int) < (np : Int)) = true := by simp; omega
  clear h1 h
  go_enter Try.func6, Try.ntmps6
  go_wp2_with fail
  refine (lworks_any _).mono ?_
  rintro e w9 ⟨rfl, hb9⟩
  go_wp2_with fail
  go_ret
  exact ⟨rfl, hb9⟩

set_option maxRecDepth 100000 in
set_option maxHeartbeats 1000000 in
theorem slag_ne (am ap : Option Addr) (nm np cm cp : Nat) (w : World) (h1 : nm ≤ 40) (h2 : np ≤ 40) (hne : nm ≠ np) :
    Calls Try.prog 6 #[.slice am nm cm, .slice ap np cp] w fun e w' => e = .returned (.bool true) ∧ Below w.heap.size w w' := by
  have hd1 : decide ((40 : Int) < (nm : Int)) = false := by simp; omega
  have hd2 : decide ((40 : Int) < (np : Int)) = false := by simp; omega
  have HNE := Lib.hid hne
  have hp : (placeW 0 == placeW 0) = true := by simp
  clear h1 h2 hne
  go_enter Try.func6, Try.ntmps6
  go_wp2_with fail
  refine (lag_ne am ap nm np cm cp _ HNE.out).mono ?_
  rintro e w' ⟨rfl, rfl⟩
  go_wp2_with fail
  refine (rlag_ne am ap nm np cm cp _ HNE.out).mono ?_
  rintro e w' ⟨rfl, rfl⟩
  go_wp2_with fail
  refine (llike_any 0 0 _ (by decide) (by decide)).mono ?_
  rintro e w' ⟨rfl, rfl⟩
  rw [hp]
  go_wp2_with fail
  refine (lnum_any 2 _).mono ?_
  rintro e w' ⟨rfl, rfl⟩
  go_wp2_with fail
  refine (lworks_any _).mono ?_
  rintro e w9 ⟨rfl, hb9⟩
  go_wp2_with fail
  go_ret
  exact ⟨rfl, hb9⟩

set_option maxRecDepth 100000 in
set_option maxHeartbeats 1000000 in
theorem slag_eq (am ap : Option Addr) (nm np cm cp : Nat) (fm fp : Nat → Int) (w : World) (hm : TimesAt w am nm fm) (hp : TimesAt w ap np fp) (h1 : nm ≤ 40) (he : nm = np) :
    Calls Try.prog 6 #[.slice am nm cm, .slice ap np cp] w fun e w' => e = .returned (.bool true) ∧ Below w.heap.size w w' := by
  subst he
  have hd1 : decide ((40 : Int) < (nm : Int)) = false := by simp; omega
  have HM := Lib.hid hm
  have HP := Lib.hid hp
  have HN := Lib.hid h1
  clear hm hp h1
  go_enter Try.func6, Try.ntmps6
  go_wp2_with fail
  refine (lag_b am ap nm cm cp fm fp _ HM.out HP.out HN.out).mono ?_
  rintro e w' ⟨s, z, er, rfl, hl, rfl⟩
  have HL := Lib.hid hl
  clear hl
  go_wp2_with fail
  refine (rlag_b am ap nm cm cp fm fp _ HM.out HP.out HN.out).mono ?_
  rintro e w1 ⟨s2, z2, er2, rfl, hl2, kk, rfl⟩
  obtain ⟨rfl, rfl, rfl⟩ := LagIs.same HL.out hl2
  have hss : (s == s) = true := by simp
  have hee : (er == er) = true := by simp
  have hpp : (placeW z == placeW z) = true := by simp
  clear hl2
  go_wp2_with fail
  refine (llike_any z z _ HL.out.lt HL.out.lt).mono ?_
  rintro e w' ⟨rfl, rfl⟩
  rw [hpp]
  go_wp2_with fail
  refine (lnum_any er _).mono ?_
  rintro e w' ⟨rfl, rfl⟩
  go_wp2_with fail
  refine (lworks_any _).mono ?_
  rintro e w9 ⟨rfl, hb9⟩
  go_wp2_with fail
  go_ret
  exact ⟨rfl, (below_drewN (Below.refl _ _) _).trans hb9⟩
end Go.Proofs.Ytbpnhpjcepgiiaa
