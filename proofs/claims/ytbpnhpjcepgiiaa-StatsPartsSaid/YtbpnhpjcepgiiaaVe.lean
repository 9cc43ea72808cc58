/- StatsHold: small laws; lists that are too long. -/
import Derived.Test.YtbpnhpjcepgiiaaVd
import Derived.Test.YtbpnhpjcepgiiaaUo
import Derived.Test.YtbpnhpjcepgiiaaSh
import Derived.BigQuiet
namespace Go.Proofs.Ytbpnhpjcepgiiaa
open Go.RowKit Fl

theorem equal_float (a : Nat) (h : Ieee.double.order a a = some .eq) (W : World) : Sem.run Try.prog (Op.equalIn 9999 22 (.float .f64 a) (.float .f64 a)) W = .ok true W := by
  have h' : FloatKind.f64.format.order a a = some .eq := h
  unfold Op.equalIn
  simp [Op.floatEq, h', go_sem]
theorem equal_fi (a : Int) (ha : a.natAbs < 2 ^ 53) (W : World) : Sem.run Try.prog (Op.equalIn 9999 22 (.float .f64 (fi a)) (.float .f64 (fi a))) W = .ok true W := equal_float _ (order_fi a ha) W
/-- the last of k -/
def lastF (m : Nat → Int) : Nat → Nat
  | 0 => 0
  | k + 1 => fi (m k)
theorem fl_succ (f : Nat → Nat) (k : Nat) : fl f (k + 1) = fl f k ++ [.float .f64 (f k)] := by
  unfold fl
  rw [List.range_succ, List.map_append]
  rfl
theorem floats_of_row {w : World} {B n cap : Nat} {oa : Option Addr} {F : Nat → Nat} (h : hasRow w B 22 1 (.slice oa n cap) n (fl F n)) (hF : ∀ i, i < n → F i < 18446744073709551616) :
    FloatsAt w oa n F ∧ (∀ ad, oa = some ad → B ≤ ad.block) ∧ (0 < n → ∃ g, oa = some ⟨g, 0, none⟩ ∧ B ≤ g ∧ n ≤ cap) := by
  have hb : ∀ ad, oa = some ad → B ≤ ad.block := fun ad e => (h.lt ad.block (by rw [e]; rfl)).1
  refine ⟨fun i hi => ?_, hb, fun h0 => ?_⟩
  · obtain ⟨g, rfl, _, hl⟩ := row_some h (by omega)
    have := hl i (.float .f64 (F i)) (by unfold fl; rw [List.getElem?_map, List.getElem?_range hi]; rfl)
    exact ⟨_, rfl, by rw [addg]; exact this, World.block_lt_of_cell? w ⟨g, i, none⟩ this, hF i hi⟩
  · obtain ⟨g, rfl, hc, _⟩ := row_some h h0
    exact ⟨g, rfl, hb _ rfl, hc⟩
/-- whole numbers of 32 bits in memory -/
def Ints32 (w : World) (a : Option Addr) (n : Nat) (f : Nat → Int) : Prop := ∀ i, i < n → ∃ ad, a = some ad ∧ w.cell? (ad.add i) = some (.int .i32 (f i)) ∧ ad.block < w.heap.size ∧ -2147483648 ≤ f i ∧ f i ≤ 2147483647
theorem Ints32.below {w w' : World} {a : Option Addr} {n : Nat} {f : Nat → Int} (h : Ints32 w a n f) (b : Below w.heap.size w w') : Ints32 w' a n f := fun i hi => by
  obtain ⟨ad, h1, h2, h3, h4⟩ := h i hi
  exact ⟨ad, h1, by rw [b.cell (p := ad.add i) (by rw [show (ad.add i).block = ad.block by unfold Addr.add; split <;> rfl]; exact h3)]; exact h2, Nat.lt_of_lt_of_le h3 b.size, h4⟩
theorem tmod_bound (a : Int) : (a.tmod 1048576).natAbs < 1048576 := by
  have h1 := Int.tmod_lt_of_pos a (show (0 : Int) < 1048576 by decide)
  have h2 : -1048576 < a.tmod 1048576 := by
    have := Int.tmod_lt_of_pos (-a) (show (0 : Int) < 1048576 by decide)
    rw [Int.neg_tmod] at this
    omega
  omega

theorem below_box (w : World) (o : Obj) (k : Nat) {w9 : World} (h : Below ((w.alloc o).drewN k).heap.size ((w.alloc o).drewN k) w9) : Below w.heap.size w w9 := by
  have b1 := (Below.refl w.heap.size w).alloc (Nat.le_refl _) o
  have b2 : Below w.heap.size w ((w.alloc o).drewN k) := ⟨b1.os, b1.tape, b1.output, b1.size, b1.block⟩
  exact b2.trans (h.mono b2.size)
set_option maxRecDepth 100000 in
theorem holds_long (os oa : Option Addr) (ns cs n c p q : Nat) (w : World) (h : 300 < ns ∨ ns ≤ 300 ∧ 300 < n) :
    Calls Try.prog 8 #[.agg #[.slice os ns cs, .slice oa n c, .float .f64 p, .float .f64 q]] w fun e w' => e = .returned (.bool true) ∧ Below w.heap.size w w' := by
  have hx : decide ((300 : Int) < (ns : Int)) = true ∨ decide ((300 : Int) < (ns : Int)) = false ∧ decide ((300 : Int) < (n : Int)) = true := by
    rcases h with h | ⟨h1, h2⟩
    · exact .inl (by simp; omega)
    · exact .inr ⟨by simp; omega, by simp; omega⟩
  clear h
  rcases hx with hd1 | ⟨hd1, hd2⟩
  · go_enter Try.func8, Try.ntmps8
    go_upto_region 1 with fail
    go_quiet (fail)
    go_wp2_with fail
    refine (lworks_any _).mono ?_
    rintro e w9 ⟨rfl, hb9⟩
    go_wp2_with fail
    go_ret
    exact ⟨rfl, below_box w _ nq hb9⟩
  · go_enter Try.func8, Try.ntmps8
    go_upto_region 1 with fail
    go_quiet (fail)
    go_wp2_with fail
    refine (lworks_any _).mono ?_
    rintro e w9 ⟨rfl, hb9⟩
    go_wp2_with fail
    go_ret
    exact ⟨rfl, below_box w _ nq hb9⟩
end Go.Proofs.Ytbpnhpjcepgiiaa
