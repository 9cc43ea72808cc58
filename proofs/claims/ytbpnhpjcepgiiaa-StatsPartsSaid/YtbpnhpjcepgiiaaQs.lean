/- QuotaHolds: what stands in a round; the calls of a round. -/
import Derived.Test.YtbpnhpjcepgiiaaQr
import Derived.Test.YtbpnhpjcepgiiaaQl
import Derived.Deep.LoopGhost
import Derived.Deep.CutRange
namespace Go.Proofs.Ytbpnhpjcepgiiaa
open Go.RowKit Fl

/-- a slice of floats, of times: what lies in it -/
def FloatsAt (w : World) (a : Option Addr) (n : Nat) (f : Nat → Nat) : Prop := ∀ i, i < n → ∃ ad, a = some ad ∧ w.cell? (ad.add i) = some (.float .f64 (f i)) ∧ ad.block < w.heap.size ∧ f i < 18446744073709551616
def TimesAt (w : World) (a : Option Addr) (n : Nat) (f : Nat → Int) : Prop := ∀ i, i < n → ∃ ad, a = some ad ∧ w.cell? (ad.add i) = some (.int .i64 (f i)) ∧ ad.block < w.heap.size
theorem FloatsAt.below {w w' : World} {a : Option Addr} {n : Nat} {f : Nat → Nat} (h : FloatsAt w a n f) (b : Below w.heap.size w w') : FloatsAt w' a n f := fun i hi => by
  obtain ⟨ad, h1, h2, h3, h4⟩ := h i hi
  exact ⟨ad, h1, by rw [b.cell (p := ad.add i) (by rw [show (ad.add i).block = ad.block by unfold Addr.add; split <;> rfl]; exact h3)]; exact h2, Nat.lt_of_lt_of_le h3 b.size, h4⟩
theorem TimesAt.below {w w' : World} {a : Option Addr} {n : Nat} {f : Nat → Int} (h : TimesAt w a n f) (b : Below w.heap.size w w') : TimesAt w' a n f := fun i hi => by
  obtain ⟨ad, h1, h2, h3⟩ := h i hi
  exact ⟨ad, h1, by rw [b.cell (p := ad.add i) (by rw [show (ad.add i).block = ad.block by unfold Addr.add; split <;> rfl]; exact h3)]; exact h2, Nat.lt_of_lt_of_le h3 b.size⟩


theorem order_le_nn (x y : Nat) (hx : x ≤ inf) (hy : y ≤ inf) : (FloatKind.f64.format.order x y == some .lt || FloatKind.f64.format.order x y == some .eq) = decide (x ≤ y) := by
  rw [show FloatKind.f64.format.order x y = _ from order_nn x y (.inl hx) (.inl hy), rv_small hx, rv_small hy]
  rcases Nat.lt_trichotomy x y with h | h | h
  · rw [Nat.compare_eq_lt.2 h]; simp; omega
  · rw [Nat.compare_eq_eq.2 h]; simp; omega
  · rw [Nat.compare_eq_gt.2 h]; simp; omega
theorem below_alike {B : Nat} {a w w' : World} (h : Below B a w) (e1 : w'.os = w.os) (e2 : w'.tape = w.tape) (e3 : w'.output = w.output) (e4 : w'.heap = w.heap) : Below B a w' :=
  ⟨by rw [e1]; exact h.os, by rw [e2]; exact h.tape, by rw [e3]; exact h.output, by rw [e4]; exact h.size, fun k hk => by rw [e4]; exact h.block k hk⟩

/-- the cells that a round reads -/
structure CellsR (w : World) (X r u : Nat) (adc adt : Addr) (k c : Nat) (t : Int) : Prop where
  z0 : w.cell? ⟨X, 0, none⟩ = some (.float .f64 r)
  z1 : w.cell? ⟨X, 1, none⟩ = some (.float .f64 u)
  cc : w.cell? (adc.add k) = some (.float .f64 c)
  ct : w.cell? (adt.add k) = some (.int .i64 t)
  hX : X < w.heap.size
  hC : adc.block < w.heap.size
  hT : adt.block < w.heap.size
theorem CellsR.below {w w' : World} {X r u : Nat} {adc adt : Addr} {k c : Nat} {t : Int} (h : CellsR w X r u adc adt k c t) (b : Below w.heap.size w w') : CellsR w' X r u adc adt k c t := by
  have hb : ∀ (a : Addr) (i : Nat), (a.add i).block = a.block := fun a i => by unfold Addr.add; split <;> rfl
  exact ⟨by rw [b.cell (p := ⟨X, 0, none⟩) h.hX]; exact h.z0, by rw [b.cell (p := ⟨X, 1, none⟩) h.hX]; exact h.z1,
    by rw [b.cell (p := adc.add k) (by rw [hb]; exact h.hC)]; exact h.cc, by rw [b.cell (p := adt.add k) (by rw [hb]; exact h.hT)]; exact h.ct,
    Nat.lt_of_lt_of_le h.hX b.size, Nat.lt_of_lt_of_le h.hC b.size, Nat.lt_of_lt_of_le h.hT b.size⟩

/-- what a round knows: a cost, a time, the bucket at its head, the time so far, whether all are small -/
structure RX (r u c : Nat) (t : Int) (b : Bk) (now nw : Int) (sm sm' : Bool) (k : Nat) : Prop where
  hi : HI r u b now sm k
  nn : NN c
  c64 : c < 18446744073709551616
  t0 : 0 ≤ t
  t1 : t ≤ 9007199254740992
  nwe : nw = max now t
  imp : sm' = true → sm = true ∧ Whole c ∧ nw < 1048576
  k60 : k ≤ 60
  uinf : u < inf

/-- the bucket as asked for, or as it was where the cost is over the burst -/
def Asked (b b2 : Bk) (u c : Nat) (t : Int) : Prop := b2 = b ∧ u < rv c ∨ b2 = onB b t ∧ rv c ≤ u

section
variable {r u c : Nat} {t : Int} {b b2 : Bk} {now nw : Int} {sm sm' : Bool} {k q : Nat} {bs : List Bk} {w : World}
theorem RX.impB (x : RX r u c t b now nw sm sm' k) : sm' = true → sm = true ∧ max now t < 1048576 := fun h => by rw [← x.nwe]; exact ⟨(x.imp h).1, (x.imp h).2.2⟩
theorem RX.nwT (x : RX r u c t b now nw sm sm' k) : (onB b t).time = nw := by rw [x.nwe, ← x.hi.time]; rfl
theorem RX.okOn (x : RX r u c t b now nw sm sm' k) : BkOk (onB b t) := onB_ok b t x.hi.ok x.t1
theorem RX.whenOver (x : RX r u c t b now nw sm sm' k) (h : HasQ w q bs) (hb : bs[0]? = some b) (ho : u < rv c) :
    Calls Try.prog 17 #[.pointer (some ⟨q, 0, none⟩), .int .i64 0, .float .f64 c, .int .i64 t] w fun e w' => e = .returned (.tuple #[.int .i64 0, .int .i64 370]) ∧ w = w' :=
  when_over_b (c := 0) h hb x.hi.ok c t x.nn x.c64 x.t0 x.t1 (by rw [x.hi.burst]; exact ho)
theorem RX.whenIn (x : RX r u c t b now nw sm sm' k) (h : HasQ w q bs) (hb : bs[0]? = some b) (ho : rv c ≤ u) :
    Calls Try.prog 17 #[.pointer (some ⟨q, 0, none⟩), .int .i64 0, .float .f64 c, .int .i64 t] w fun e w' =>
      (∃ s f : Int, e = .returned (.tuple #[.int .i64 s, .int .i64 f]) ∧ (f = 371 ∨ f = 0 ∧ Tells (onB b t) (rv c) s)) ∧
      HasQ w' q (bs.set 0 (onB b t)) ∧ w.grownBy w' (some q) :=
  (when_in_b (c := 0) h hb x.hi.ok c t x.nn x.c64 x.t0 x.t1 (by rw [x.hi.burst]; exact ho)).mono fun e w' ⟨h1, h2⟩ => ⟨h1.elim (fun h => ⟨0, 371, h.2, .inl rfl⟩) (fun ⟨_, s, hs, he⟩ => ⟨s, 0, he, .inr ⟨rfl, hs⟩⟩), h2⟩
/-- at the time told a copy can be paid -/
theorem RX.payTold (x : RX r u c t b now nw sm sm' k) (h : HasQ w q bs) (hb : bs[0]? = some (onB b t)) (ho : rv c ≤ u) (s : Int) (hs : Tells (onB b t) (rv c) s) :
    Calls Try.prog 19 #[.pointer (some ⟨q, 0, none⟩), .int .i64 0, .float .f64 c, .int .i64 s] w fun e w' => e = .returned (.int .i64 0) ∧ w.grownBy w' (some q) :=
  (pay_ok_b (c := 0) h hb x.okOn c s x.nn x.c64 (Int.le_trans x.okOn.time0 hs.1) hs.2.1 (by rw [show (onB b t).burst = u from x.hi.burst]; exact ho) hs.2.2.1 x.hi.times0
    (by have := x.hi.times1; have := x.k60; show b.times ≤ _; omega)).mono fun e w' ⟨h1, h2, h3⟩ => ⟨h1, h3⟩
/-- a unit earlier it cannot -/
theorem RX.payEarly (x : RX r u c t b now nw sm sm' k) (h : HasQ w q bs) (hb : bs[0]? = some (onB b t)) (ho : rv c ≤ u) (s : Int) (hs : Tells (onB b t) (rv c) s) (hlt : nw < s) :
    Calls Try.prog 19 #[.pointer (some ⟨q, 0, none⟩), .int .i64 0, .float .f64 c, .int .i64 (s - 1)] w fun e w' => e = .returned (.int .i64 371) ∧ w.grownBy w' (some q) :=
  (pay_later_b (c := 0) h hb x.okOn c (s - 1) x.nn x.c64 (by have := x.okOn.time0; have := x.nwT; omega) (by have := hs.2.1; omega) (by rw [show (onB b t).burst = u from x.hi.burst]; exact ho)
    (by rcases hs.2.2.2 with h1 | h1
        · rw [x.nwT] at h1; omega
        · exact h1)).mono fun e w' ⟨h1, h2, h3⟩ => ⟨h1, h3⟩
/-- the call's own Pay: whatever it answers, the bucket goes on so -/
theorem RX.pay (x : RX r u c t b now nw sm sm' k) (h : HasQ w q bs) (hb : bs[0]? = some b2) (ha : Asked b b2 u c t) :
    Calls Try.prog 19 #[.pointer (some ⟨q, 0, none⟩), .int .i64 0, .float .f64 c, .int .i64 t] w fun e w' => ∃ (n : Int) (b3 : Bk), e = .returned (.int .i64 n) ∧
      HasQ w' q (bs.set 0 b3) ∧ w.grownBy w' (some q) ∧ BkOk b3 ∧ HI r u (onB b3 t) nw sm' (k + 1) := by
  rcases ha with ⟨rfl, ho⟩ | ⟨rfl, ho⟩
  · refine (pay_over_b (c := 0) h hb x.hi.ok c t x.nn x.c64 x.t0 x.t1 (by rw [x.hi.burst]; exact ho)).mono ?_
    rintro e w' ⟨rfl, rfl⟩
    refine ⟨_, b2, rfl, ?_, World.grownBy.refl _ _, x.hi.ok, by rw [x.nwe]; exact x.hi.on t sm' x.t1 x.impB⟩
    have : bs.set 0 b2 = bs := List.ext_getElem? fun i => by
      by_cases hi : 0 = i
      · subst hi; rw [List.getElem?_set_self (by rw [h.1]; decide), hb]
      · rw [List.getElem?_set_ne hi]
    rw [this]; exact h
  · by_cases hl : rv c ≤ atL (onB b t) t
    · refine (pay_ok_b (c := 0) h hb x.okOn c t x.nn x.c64 x.t0 x.t1 (by rw [show (onB b t).burst = u from x.hi.burst]; exact ho) hl x.hi.times0 (by have := x.hi.times1; have := x.k60; show b.times ≤ _; omega)).mono ?_
      rintro e w' ⟨rfl, h2, h3⟩
      rw [onB_onB] at h2
      rw [atL_on_self] at hl
      refine ⟨_, _, rfl, h2, h3, outB_ok _ c x.okOn hl, ?_⟩
      rw [onB_outB, x.nwe]
      exact x.hi.out t sm' c x.t1 x.impB (fun h => (x.imp h).2.1) hl
    · refine (pay_later_b (c := 0) h hb x.okOn c t x.nn x.c64 x.t0 x.t1 (by rw [show (onB b t).burst = u from x.hi.burst]; exact ho) (by omega)).mono ?_
      rintro e w' ⟨rfl, h2, h3⟩
      rw [onB_onB] at h2
      refine ⟨_, _, rfl, h2, h3, x.okOn, ?_⟩
      rw [onB_onB, x.nwe]
      exact x.hi.on t sm' x.t1 x.impB
end
end Go.Proofs.Ytbpnhpjcepgiiaa
