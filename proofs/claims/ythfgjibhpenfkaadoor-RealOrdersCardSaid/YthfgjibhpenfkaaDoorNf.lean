/- Real: the text of any float, as a relation. -/
import Derived.Test.YthfgjibhpenfkaaDoorNe
namespace Go.Proofs.YthfgjibhpenfkaaDoor
open Go.RowKit Fl

def nanB : ByteArray := ⟨#[110, 97, 110]⟩
def infB : ByteArray := ⟨#[105, 110, 102]⟩
def zeroB : ByteArray := ⟨#[48]⟩
def FinT (x n : Nat) (ex : Int) : Prop := OddOf (x % nz) n ex ∧ (0 < n ∧ n < 9007199254740992 ∧ -1200 ≤ ex ∧ ex ≤ 1200)
/-- the text of a float -/
def TextIs (x : Nat) (s : ByteArray) : Prop :=
  inf < x % nz ∧ s = nanB ∨ x % nz = inf ∧ s = sgB x ++ infB ∨ x % nz = 0 ∧ s = sgB x ++ zeroB ∨ (0 < x % nz ∧ x % nz < inf) ∧ ∃ n ex, FinT x n ex ∧ s = textB x n ex
theorem TextIs.unique {x : Nat} {s s' : ByteArray} (h : TextIs x s) (h' : TextIs x s') : s = s' := by
  have hi : 0 < inf := by decide
  rcases h with ⟨a, rfl⟩ | ⟨a, rfl⟩ | ⟨a, rfl⟩ | ⟨a, n, ex, f, rfl⟩ <;> rcases h' with ⟨b, rfl⟩ | ⟨b, rfl⟩ | ⟨b, rfl⟩ | ⟨b, n', ex', f', rfl⟩
  any_goals rfl
  any_goals omega
  obtain ⟨rfl, rfl⟩ := f.1.unique f'.1
  rfl
set_option maxRecDepth 100000 in
set_option maxHeartbeats 2000000 in
theorem Text_edge (x : Nat) (w : World) (hx : x < 18446744073709551616) (h : x % nz = inf ∨ x % nz = 0) :
    Calls Tryd.prog 16 #[.float .f64 x] w fun e w' => ∃ s, TextIs x s ∧ e = .returned (.string s) ∧ w = w' := by
  have hiv := inf_val
  have hnv := nz_val
  have o1 : FloatKind.f64.format.order x x = some .eq := by
    show Ieee.double.order x x = some .eq
    rw [order_self, if_pos (by omega)]
  obtain ⟨r, hr⟩ : ∃ r, r = x % nz := ⟨_, rfl⟩
  rw [← hr] at h
  have o2 : FloatKind.f64.format.order r r = some .eq := by
    show Ieee.double.order r r = some .eq
    rw [order_self, if_pos (by have : r % nz = r := Nat.mod_eq_of_lt (by omega)
                               omega)]
  have hrn : r < nz := by omega
  have HX := Lib.hid (And.intro hx (And.intro hrn hr))
  have HH := Lib.hid h
  have HN : Hid (Op.negFloat .f64 x = r ∨ ¬ nz ≤ x) := Lib.hid (by
    by_cases h : nz ≤ x
    · exact .inl (by rw [neg_top x h hx, hr])
    · exact .inr h)
  obtain ⟨S, hS⟩ : ∃ S, S = sgB x := ⟨_, rfl⟩
  have HS := Lib.hid hS
  have hlow : Hid (¬ nz ≤ x → r = x) := Lib.hid (by intro h; rw [hr]; exact Nat.mod_eq_of_lt (by omega))
  have sS : S.size ≤ 1 := by rw [hS]; exact sgB_size x
  clear h hr hx hS hiv hnv hrn
  go_enter Tryd.func16, Tryd.ntmps16
  go_wp2_with fail
  refine (signbit_any x _ HX.out.1).mono ?_
  rintro e w' ⟨rfl, rfl⟩
  obtain ⟨z, hz⟩ : ∃ z, z = decide (nz ≤ x) := ⟨_, rfl⟩
  rw [← hz]
  have HZ := Lib.hid hz
  clear hz
  go_upto_if 13 with fail
  go_cut [0, 3, 13] from 7 to 15 (fun s0 s3 s13 wx => s0 = .float .f64 r ∧ s3 = .string S ∧ w = wx)
  case first =>
    clear sS
    cases z
    · have hz := of_decide_eq_false HZ.out.symm
      have hrx := hlow.out hz
      subst hrx
      have hS : S = ⟨#[]⟩ := by rw [HS.out]; unfold sgB; rw [if_neg hz]
      go_wp2_with fail
      go_meet
      exact ⟨rfl, by rw [hS], rfl⟩
    · have hz := of_decide_eq_true HZ.out.symm
      have hng : Op.negFloat .f64 x = r := by rcases HN.out with h | h; exact h; exact absurd hz h
      have hS : S = ⟨#[45]⟩ := by rw [HS.out]; unfold sgB; rw [if_pos hz]
      have hneg : ∀ W : World, (Op.unary .neg (.float .f64 x)).run Tryd.prog W = .ok (.float .f64 r) W := fun W => by rw [← hng]; rfl
      clear hng
      go_wp2_with fail
      go_meet
      exact ⟨rfl, by rw [hS], rfl⟩
  case rest =>
  obtain ⟨rfl, rfl, rfl⟩ := hcut
  clear o1
  have hq : S.size + 3 ≤ 9223372036854775807 := by omega
  have hq1 : S.size + 1 ≤ 9223372036854775807 := by omega
  go_wp2_with fail
  refine (isinf1_any r _ HX.out.2.1).mono ?_
  rintro e w' ⟨rfl, rfl⟩
  rcases HH.out with h | h
  · rw [show decide (r = inf) = true by simp [h]]
    have HI := Lib.hid h
    clear h
    go_wp2_with fail
    go_ret
    exact ⟨_, .inr (.inl ⟨by rw [← HX.out.2.2]; exact HI.out, by rw [← HS.out]; rfl⟩), rfl, rfl⟩
  · rw [show decide (r = inf) = false by rw [h]; decide]
    have HI := Lib.hid h
    have o3 : (FloatKind.f64.format.order r 0 == some .eq) = true := by rw [h]; decide +kernel
    clear h
    go_wp2_with fail
    go_ret
    exact ⟨_, .inr (.inr (.inl ⟨by rw [← HX.out.2.2]; exact HI.out, by rw [← HS.out]; rfl⟩)), rfl, rfl⟩
/-- Text, at every float -/
theorem Text_any (x : Nat) (w : World) (hx : x < 18446744073709551616) (ht : Pow10 w) :
    Calls Tryd.prog 16 #[.float .f64 x] w fun e w' => ∃ s, TextIs x s ∧ e = .returned (.string s) ∧ Below w.heap.size w w' := by
  rcases Nat.lt_or_ge inf (x % nz) with h | h
  · refine (Text_nan x w h).mono ?_
    rintro e w' ⟨rfl, rfl⟩
    exact ⟨_, .inl ⟨h, rfl⟩, rfl, Below.refl _ _⟩
  · by_cases h2 : x % nz = inf ∨ x % nz = 0
    · refine (Text_edge x w hx h2).mono ?_
      rintro e w' ⟨s, a, rfl, rfl⟩
      exact ⟨s, a, rfl, Below.refl _ _⟩
    · refine (Text_fin x w hx ht (by omega) (by omega)).mono ?_
      rintro e w' ⟨n, ex, a, b, rfl, c⟩
      exact ⟨_, .inr (.inr (.inr ⟨⟨by omega, by omega⟩, n, ex, ⟨a, b⟩, rfl⟩)), rfl, c⟩
end Go.Proofs.YthfgjibhpenfkaaDoor
