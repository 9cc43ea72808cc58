/- Quota: the contracts by what a bucket is; works. -/
import Derived.Test.YtbpnhpjcepgiiaaQh
namespace Go.Proofs.Ytbpnhpjcepgiiaa
open Go.RowKit Fl

theorem num_any (n : Int) (w : World) : Calls Try.prog 13 #[.int .i64 n] w fun e w' => e = .returned (.int .i64 n) ∧ w = w' := by
  go_enter Try.func13, Try.ntmps13
  go_wp2
  go_ret
  exact ⟨rfl, rfl⟩

theorem atL_mono (b : Bk) (h : BkOk b) (t u : Int) (htu : t ≤ u) : atL b t ≤ atL b u := by
  unfold atL
  by_cases h1 : u ≤ b.time
  · rw [if_pos h1, if_pos (by omega)]; exact Nat.le_refl _
  · rw [if_neg h1]
    by_cases h2 : t ≤ b.time
    · rw [if_pos h2]
      refine Nat.le_min.2 ⟨h.level, fadd_ge _ _ ?_⟩
      have := h.level; have := h.burst1; omega
    · rw [if_neg h2]
      have hm := fadd_mono b.level _ _ (fmul_mono (rv b.rate) _ _ (i2r_mono (show (t - b.time).toNat ≤ (u - b.time).toNat by omega))) (fmul_le _ _)
      omega

section
variable {q c : Nat} {bs : List Bk} {b : Bk} {w : World}
theorem level_b (h : HasQ w q bs) (hb : bs[c]? = some b) (hok : BkOk b) (t : Int) (ht0 : 0 ≤ t) (ht : t ≤ 9007199254740992) :
    Calls Try.prog 20 #[.pointer (some ⟨q, 0, none⟩), .int .i64 c, .int .i64 t] w fun e w' => e = .returned (.tuple #[.float .f64 (atL b t), .int .i64 0]) ∧
      HasQ w' q (bs.set c (onB b t)) ∧ w.grownBy w' (some q) := by
  obtain ⟨hc, rfl⟩ := List.getElem?_eq_some_iff.1 hb
  exact level_ok q c bs t w h hc hok ht0 ht
theorem pay_over_b (h : HasQ w q bs) (hb : bs[c]? = some b) (hok : BkOk b) (cost : Nat) (t : Int) (hx : NN cost) (hx2 : cost < 18446744073709551616) (ht0 : 0 ≤ t) (ht : t ≤ 9007199254740992) (ho : b.burst < rv cost) :
    Calls Try.prog 19 #[.pointer (some ⟨q, 0, none⟩), .int .i64 c, .float .f64 cost, .int .i64 t] w fun e w' => e = .returned (.int .i64 370) ∧ w = w' := by
  obtain ⟨hc, rfl⟩ := List.getElem?_eq_some_iff.1 hb
  exact pay_over q c bs cost t w h hc hok hx hx2 ht0 ht ho
theorem pay_later_b (h : HasQ w q bs) (hb : bs[c]? = some b) (hok : BkOk b) (cost : Nat) (t : Int) (hx : NN cost) (hx2 : cost < 18446744073709551616) (ht0 : 0 ≤ t) (ht : t ≤ 9007199254740992) (ho : rv cost ≤ b.burst) (hl : atL b t < rv cost) :
    Calls Try.prog 19 #[.pointer (some ⟨q, 0, none⟩), .int .i64 c, .float .f64 cost, .int .i64 t] w fun e w' => e = .returned (.int .i64 371) ∧
      HasQ w' q (bs.set c (onB b t)) ∧ w.grownBy w' (some q) := by
  obtain ⟨hc, rfl⟩ := List.getElem?_eq_some_iff.1 hb
  exact pay_later q c bs cost t w h hc hok hx hx2 ht0 ht ho hl
theorem pay_ok_b (h : HasQ w q bs) (hb : bs[c]? = some b) (hok : BkOk b) (cost : Nat) (t : Int) (hx : NN cost) (hx2 : cost < 18446744073709551616) (ht0 : 0 ≤ t) (ht : t ≤ 9007199254740992) (ho : rv cost ≤ b.burst) (hl : rv cost ≤ atL b t)
    (hn0 : 0 ≤ b.times) (hn1 : b.times ≤ 1000000) :
    Calls Try.prog 19 #[.pointer (some ⟨q, 0, none⟩), .int .i64 c, .float .f64 cost, .int .i64 t] w fun e w' => e = .returned (.int .i64 0) ∧
      HasQ w' q (bs.set c (outB (onB b t) cost)) ∧ w.grownBy w' (some q) := by
  obtain ⟨hc, rfl⟩ := List.getElem?_eq_some_iff.1 hb
  exact pay_ok q c bs cost t w h hc hok hx hx2 ht0 ht ho hl hn0 hn1
theorem when_over_b (h : HasQ w q bs) (hb : bs[c]? = some b) (hok : BkOk b) (cost : Nat) (t : Int) (hx : NN cost) (hx2 : cost < 18446744073709551616) (ht0 : 0 ≤ t) (ht : t ≤ 9007199254740992) (ho : b.burst < rv cost) :
    Calls Try.prog 17 #[.pointer (some ⟨q, 0, none⟩), .int .i64 c, .float .f64 cost, .int .i64 t] w fun e w' => e = .returned (.tuple #[.int .i64 0, .int .i64 370]) ∧ w = w' := by
  obtain ⟨hc, rfl⟩ := List.getElem?_eq_some_iff.1 hb
  exact when_over q c bs cost t w h hc hok hx hx2 ht0 ht ho
theorem when_in_b (h : HasQ w q bs) (hb : bs[c]? = some b) (hok : BkOk b) (cost : Nat) (t : Int) (hx : NN cost) (hx2 : cost < 18446744073709551616) (ht0 : 0 ≤ t) (ht : t ≤ 9007199254740992) (ho : rv cost ≤ b.burst) :
    Calls Try.prog 17 #[.pointer (some ⟨q, 0, none⟩), .int .i64 c, .float .f64 cost, .int .i64 t] w fun e w' =>
      ((atL (onB b t) 9007199254740992 < rv cost ∧ e = .returned (.tuple #[.int .i64 0, .int .i64 371])) ∨ (rv cost ≤ atL (onB b t) 9007199254740992 ∧ WhenPost (onB b t) (rv cost) e)) ∧
      HasQ w' q (bs.set c (onB b t)) ∧ w.grownBy w' (some q) := by
  obtain ⟨hc, rfl⟩ := List.getElem?_eq_some_iff.1 hb
  exact when_in q c bs cost t w h hc hok hx hx2 ht0 ht ho
theorem paid_b (h : HasQ w q bs) (hb : bs[c]? = some b) :
    Calls Try.prog 21 #[.pointer (some ⟨q, 0, none⟩), .int .i64 c] w fun e w' => e = .returned (.tuple #[.float .f64 b.paid, .int .i64 b.times, .int .i64 0]) ∧ ∃ n, w' = w.drewN n := by
  obtain ⟨hc, rfl⟩ := List.getElem?_eq_some_iff.1 hb
  exact paid_ok q c bs w h hc
theorem back_b (h : HasQ w q bs) (hb : bs[c]? = some b) (hok : BkOk b) (cost : Nat) (hx : NN cost) (hx2 : cost < 18446744073709551616) :
    Calls Try.prog 23 #[.pointer (some ⟨q, 0, none⟩), .int .i64 c, .float .f64 cost] w fun e w' => e = .returned (.int .i64 0) ∧
      HasQ w' q (bs.set c (backB b cost)) ∧ w.grownBy w' (some q) := by
  obtain ⟨hc, rfl⟩ := List.getElem?_eq_some_iff.1 hb
  exact back_ok q c bs cost w h hc hok hx hx2
theorem reset_b (h : HasQ w q bs) (hb : bs[c]? = some b) (t : Int) (ht0 : 0 ≤ t) (ht : t ≤ 9007199254740992) :
    Calls Try.prog 24 #[.pointer (some ⟨q, 0, none⟩), .int .i64 c, .int .i64 t] w fun e w' => e = .returned (.int .i64 0) ∧
      HasQ w' q (bs.set c (resetB b t)) ∧ w.grownBy w' (some q) := by
  obtain ⟨hc, rfl⟩ := List.getElem?_eq_some_iff.1 hb
  exact reset_ok q c bs t w h hc ht0 ht
end

theorem repl_get (k : Nat) (b : Bk) (h : k < 64) : (List.replicate 64 b)[k]? = some b := by rw [List.getElem?_replicate, if_pos h]
theorem set_get (bs : List Bk) (c : Nat) (b : Bk) (h : bs.length = 64) (hc : c < 64) : (bs.set c b)[c]? = some b := by
  rw [List.getElem?_set_self (by omega)]
theorem set_other (bs : List Bk) (c d : Nat) (b : Bk) (h : c ≠ d) : (bs.set c b)[d]? = bs[d]? := by
  rw [List.getElem?_set_ne h]

/-- the store of a block of the call's own leaves what lay below -/
theorem below_grown {B q : Nat} {w0 w w' : World} (h : Below B w0 w) (g : w.grownBy w' (some q)) (hq : B ≤ q) (hB : B ≤ w.heap.size) : Below B w0 w' := h.grown g hB (fun k e => by simp at e; omega)

/-! ### works: a bucket is emptied, and filled -/
def k2 : Nat := 4611686018427387904
def k4 : Nat := 4616189618054758400
def k7 : Nat := 4619567317775286272
def k9 : Nat := 4621256167635550208
def k10 : Nat := 4621819117588971520
def wb0 : Bk := newB k2 k10 0
def wb1 : Bk := outB (onB wb0 0) k7
theorem wb0_ok : BkOk wb0 := newB_ok k2 k10 0 (by decide +kernel) (by decide) (by decide)
theorem nn_k7 : NN k7 := .inl (by decide)
theorem nn_k4 : NN k4 := .inl (by decide)
theorem rv_k7 : rv k7 = k7 := by decide +kernel
theorem rv_k4 : rv k4 = k4 := by decide +kernel
theorem wb0_lvl : atL wb0 0 = k10 := by decide +kernel
theorem wb1_ok : BkOk wb1 := outB_ok _ _ (onB_ok _ _ wb0_ok (by decide)) (by rw [rv_k7]; decide +kernel)
theorem wb1_lvl0 : atL wb1 0 < k4 := by decide +kernel
def wb2 : Bk := onB wb1 0
theorem wb2_ok : BkOk wb2 := onB_ok _ _ wb1_ok (by decide)
def wb3 : Bk := onB wb2 0
theorem wb3_ok : BkOk wb3 := onB_ok _ _ wb2_ok (by decide)
theorem wb3_lvl0 : atL wb3 0 < k4 := by decide +kernel
theorem wb3_lvl1 : k4 ≤ atL wb3 1 := by decide +kernel
theorem wb3_lvl3 : atL wb3 3 = k9 := by decide +kernel
theorem wb3_time : wb3.time = 0 := by decide +kernel
theorem wb3_max : k4 ≤ atL wb3 9007199254740992 := Nat.le_trans wb3_lvl1 (atL_mono wb3 wb3_ok _ _ (by decide))
theorem wb3_tells (s : Int) (h : Tells wb3 k4 s) : s = 1 := by
  obtain ⟨h1, h2, h3, h4⟩ := h
  rw [wb3_time] at h1 h4
  have a0 := wb3_lvl0
  have a1 := wb3_lvl1
  by_cases hs : s = 0
  · rw [hs] at h3; omega
  · rcases h4 with h4 | h4
    · exact absurd h4 hs
    · by_cases h5 : s = 1
      · exact h5
      · have := atL_mono wb3 wb3_ok 1 (s - 1) (by omega)
        omega
end Go.Proofs.Ytbpnhpjcepgiiaa
