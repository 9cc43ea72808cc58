/- StatsTally: what stands at the head of each round: the tallies, and what was put aside. -/
import Derived.Test.YtbpnhpjcepgiiaaUo
namespace Go.Proofs.Ytbpnhpjcepgiiaa
open Go.RowKit Fl

theorem ne_types : (78 : TypeId) ≠ 84 ∧ (78 : TypeId) ≠ 82 ∧ (82 : TypeId) ≠ 84 := by decide
/-- a tally's values -/
def Ta.vals (t : Ta) : List Value := [.int .i64 t.n, .float .f64 t.sum, .float .f64 t.mean, .float .f64 t.m, .float .f64 t.least, .float .f64 t.greatest]
theorem hasRow.keptK {w w' : World} {base : Nat} {e : TypeId} {size : Nat} {v : Value} {n : Nat} {xs : List Value} {q s : Nat} (h : hasRow w base e size v n xs) (hk : Kept w w' q s) (h1 : v.ownBlock ≠ some q) (h2 : v.ownBlock ≠ some s) : hasRow w' base e size v n xs := by
  obtain ⟨hl, h | ⟨g, cap, cur, fr, rfl, hb, hg, h3⟩⟩ := h
  · exact ⟨hl, .inl h⟩
  · refine ⟨hl, .inr ⟨g, cap, cur, fr, rfl, hb, ?_, h3⟩⟩
    rw [hk.block g (Array.getElem?_eq_some_iff.1 hg).1 (fun e => h1 (by rw [← e]; rfl)) (fun e => h2 (by rw [← e]; rfl))]
    exact hg
/-- what was put aside: a tally, and the document's as it was -/
structure Sv where
  q : Nat
  a : Ta
  b : Ta
structure PInv (wr w : World) (q s : Nat) (a b : Ta) (v7 v8 : Value) (L : List Sv) (k : Nat) : Prop where
  pair : Pair a b
  ta : TaAt wr q a
  tb : TbAt wr s b
  m : a.n + 200 ≤ 200 * 2 ^ k
  ro : hasRow wr w.heap.size 78 1 v7 L.length (L.map fun x => .pointer (some ⟨x.q, 0, none⟩))
  rs : hasRow wr (s + 1) 82 6 v8 L.length (L.flatMap fun x => x.b.vals)
  sv : ∀ x ∈ L, TaAt wr x.q x.a ∧ Pair x.a x.b ∧ x.q ≠ q
  below : Below w.heap.size w wr
  bq : w.heap.size ≤ q
  bs : w.heap.size ≤ s
theorem PInv.onBelow {wr w' w : World} {q s : Nat} {a b : Ta} {v7 v8 : Value} {L : List Sv} {k : Nat} (h : PInv wr w q s a b v7 v8 L k) (bl : Below wr.heap.size wr w') : PInv w' w q s a b v7 v8 L k :=
  { h with
    ta := h.ta.of (bl.block q h.ta.lt)
    tb := h.tb.of (bl.block s h.tb.lt)
    ro := h.ro.kept (grown_below bl none) (by cases h' : v7.ownBlock <;> simp)
    rs := h.rs.kept (grown_below bl none) (by cases h' : v8.ownBlock <;> simp)
    sv := fun x hx => ⟨(h.sv x hx).1.of (bl.block x.q (h.sv x hx).1.lt), (h.sv x hx).2⟩
    below := h.below.trans (bl.mono h.below.size) }
theorem PInv.s8 {wr w : World} {q s : Nat} {a b : Ta} {v7 v8 : Value} {L : List Sv} {k : Nat} (h : PInv wr w q s a b v7 v8 L k) : v8.ownBlock ≠ some s := fun e => by
  have := (h.rs.lt s e).1; omega
theorem PInv.onAsk {wr w' w : World} {q s : Nat} {a b a' b' : Ta} {v7 v8 : Value} {L : List Sv} {k : Nat} (h : PInv wr w q s a b v7 v8 L k) (hp : Pair a' b') (ha : TaAt w' q a') (hb : TbAt w' s b') (hk : Kept wr w' q s) (hm : a'.n + 200 ≤ 2 * (200 * 2 ^ k)) : PInv w' w q s a' b' v7 v8 L (k + 1) where
  pair := hp
  ta := ha
  tb := hb
  m := by have : (200 : Int) * 2 ^ (k + 1) = 2 * (200 * 2 ^ k) := by rw [Int.pow_succ]; omega
          omega
  ro := h.ro.keptK hk (h.ro.neT h.ta.at_ ne_types.1) (h.ro.neT h.tb.at_ ne_types.2.1)
  rs := h.rs.keptK hk (h.rs.neT h.ta.at_ ne_types.2.2) h.s8
  sv := fun x hx => by
    obtain ⟨h1, h2, h3⟩ := h.sv x hx
    exact ⟨h1.of (hk.block x.q h1.lt h3 (Ta_ne_Tb h1 h.tb)), h2, h3⟩
  below := ⟨hk.os.trans h.below.os, hk.tape.trans h.below.tape, hk.output.trans h.below.output, Nat.le_trans h.below.size hk.size, fun i hi => (hk.block i (Nat.lt_of_lt_of_le hi h.below.size) (by have := h.bq; omega) (by have := h.bs; omega)).trans (h.below.block i hi)⟩
  bq := h.bq
  bs := h.bs
/-- the old tally and the document's are put aside, the tally goes on as a copy -/
theorem PInv.aside {wr w1 w2 w3 w4 w5 w : World} {q s q' : Nat} {a b : Ta} {v7 v8 v7' v8' : Value} {L : List Sv} {k : Nat} (h : PInv wr w q s a b v7 v8 L k)
    (a1 : Below wr.heap.size wr w1)
    (r2 : hasRow w2 w.heap.size 78 1 v7' (L.length + 1) ((L.map fun x => Value.pointer (some ⟨x.q, 0, none⟩)) ++ [.pointer (some ⟨q, 0, none⟩)])) (g2 : w1.grownBy w2 v7.ownBlock)
    (a3 : Below w2.heap.size w2 w3)
    (r4 : hasRow w4 (s + 1) 82 6 v8' (L.length + 1) ((L.flatMap fun x => x.b.vals) ++ b.vals)) (g4 : w3.grownBy w4 v8.ownBlock)
    (hq' : TaAt w5 q' a) (a5 : Below w4.heap.size w4 w5) (hqq : q' = w4.heap.size) :
    PInv w5 w q' s a b v7' v8' (L ++ [⟨q, a, b⟩]) k := by
  have z1 := a1.size
  have z2 := g2.size
  have z3 := a3.size
  have z4 := g4.size
  have z5 := a5.size
  have zB : w.heap.size ≤ wr.heap.size := h.below.size
  have keep : ∀ i, i < wr.heap.size → v7.ownBlock ≠ some i → v8.ownBlock ≠ some i → w5.heap[i]? = wr.heap[i]? := fun i hi h1 h2 => by
    rw [a5.block i (by omega), g4.block i (by omega) (fun e => h2 e.symm), a3.block i (by omega), g2.block i (by omega) (fun e => h1 e.symm), a1.block i hi]
  have q7 := h.ro.neT h.ta.at_ ne_types.1
  have q8 := h.rs.neT h.ta.at_ ne_types.2.2
  have s7 := h.ro.neT h.tb.at_ ne_types.2.1
  have ro' : hasRow w5 w.heap.size 78 1 v7' (L.length + 1) ((L.map fun x => Value.pointer (some ⟨x.q, 0, none⟩)) ++ [.pointer (some ⟨q, 0, none⟩)]) := by
    have r3 := r2.kept (grown_below a3 none) (by cases v7'.ownBlock <;> simp)
    have r4' := r3.kept g4 (by
      by_cases hn : v7'.ownBlock = none
      · exact .inl hn
      · right; intro e
        obtain ⟨g, hg⟩ := Option.ne_none_iff_exists'.1 hn
        have t8 : hasRow w3 (s + 1) 82 6 v8 L.length (L.flatMap fun x => x.b.vals) := by
          have u1 := h.rs.kept (grown_below a1 none) (by cases v8.ownBlock <;> simp)
          have u2 := u1.kept g2 (by
            by_cases hn2 : v8.ownBlock = none
            · exact .inl hn2
            · right; intro e2
              obtain ⟨_, ⟨hh, _⟩ | ⟨ga, ca, cua, fra, hva, _, hga, _⟩⟩ := h.ro
              · rw [hh] at e2; exact hn2 e2
              · exact h.rs.neT hga (by exact fun e => ne_types.2.1 e.symm) (by rw [e2, hva]; rfl))
          exact u2.kept (grown_below a3 none) (by cases v8.ownBlock <;> simp)
        obtain ⟨_, ⟨hh, _⟩ | ⟨ga, ca, cua, fra, hva, _, hga, _⟩⟩ := t8
        · rw [e, hh] at hg; cases hg
        · exact r3.neT hga ne_types.2.1 (by rw [e, hva]; rfl))
    exact r4'.kept (grown_below a5 none) (by cases v7'.ownBlock <;> simp)
  have rs' : hasRow w5 (s + 1) 82 6 v8' (L.length + 1) ((L.flatMap fun x => x.b.vals) ++ b.vals) := r4.kept (grown_below a5 none) (by cases v8'.ownBlock <;> simp)
  refine ⟨h.pair, hq', h.tb.of (keep s h.tb.lt s7 h.s8), h.m, by simpa using ro', by simpa using rs', ?_, ?_, by omega, h.bs⟩
  · intro x hx
    rcases List.mem_append.1 hx with hx | hx
    · obtain ⟨h1, h2, h3⟩ := h.sv x hx
      exact ⟨h1.of (keep x.q h1.lt (h.ro.neT h1.at_ ne_types.1) (h.rs.neT h1.at_ ne_types.2.2)), h2, by have := h1.lt; omega⟩
    · obtain rfl := List.mem_singleton.1 hx
      exact ⟨h.ta.of (keep q h.ta.lt q7 q8), h.pair, by have := h.ta.lt; show q ≠ q'; omega⟩
  · have n7 : ∀ i, i < w.heap.size → v7.ownBlock ≠ some i := fun i hi e => by have := (h.ro.lt i e).1; omega
    have n8 : ∀ i, i < w.heap.size → v8.ownBlock ≠ some i := fun i hi e => by have := (h.rs.lt i e).1; have := h.bs; omega
    exact ⟨a5.os.trans (g4.os.trans (a3.os.trans (g2.os.trans (a1.os.trans h.below.os)))), a5.tape.trans (g4.tape.trans (a3.tape.trans (g2.tape.trans (a1.tape.trans h.below.tape)))),
      a5.output.trans (g4.output.trans (a3.output.trans (g2.output.trans (a1.output.trans h.below.output)))), by have := h.below.size; omega,
      fun i hi => (keep i (by omega) (n7 i hi) (n8 i hi)).trans (h.below.block i hi)⟩
theorem vals_len (l : List Ta) : (l.flatMap Ta.vals).length = l.length * 6 := by
  induction l with
  | nil => rfl
  | cons a l ih => simp only [List.flatMap_cons, List.length_append, ih, List.length_cons]; show 6 + l.length * 6 = _; omega
theorem vals_at (L : List Sv) (i j : Nat) (x : Sv) (v : Value) (h : L[i]? = some x) (hv : x.b.vals[j]? = some v) : (L.flatMap fun x => x.b.vals)[i * 6 + j]? = some v := by
  have hj : j < 6 := (List.getElem?_eq_some_iff.1 hv).1
  induction L generalizing i with
  | nil => simp at h
  | cons y L ih =>
    rw [List.flatMap_cons]
    cases i with
    | zero =>
      simp at h; subst h
      rw [List.getElem?_append_left (by show 0 * 6 + j < 6; omega)]
      simpa using hv
    | succ i =>
      rw [List.getElem?_append_right (by show 6 ≤ _; omega)]
      have := ih i (by simpa using h)
      rw [← this]
      congr 1
      show (i + 1) * 6 + j - 6 = _
      omega
/-- one that was put aside, as the law reads it -/
theorem PInv.at_ {wr w : World} {q s : Nat} {a b : Ta} {oa ob : Option Addr} {na ca nb cb : Nat} {L : List Sv} {k i : Nat} (h : PInv wr w q s a b (.slice oa na ca) (.slice ob nb cb) L k) (hi : i < L.length) (hna : na = L.length) (hnb : nb = L.length) :
    ∃ g1 g2 x, oa = some ⟨g1, 0, none⟩ ∧ ob = some ⟨g2, 0, none⟩ ∧ x ∈ L ∧ wr.cell? ⟨g1, i, none⟩ = some (.pointer (some ⟨x.q, 0, none⟩)) ∧ TbC wr g2 (i * 6) x.b := by
  subst hna
  subst hnb
  obtain ⟨g1, rfl, -, hl1⟩ := row_some h.ro (by omega)
  obtain ⟨_, ⟨_, h0⟩ | ⟨g2, c2, cu, fr, hv, _, hg, hc, _, hs, _, ht⟩⟩ := h.rs
  · omega
  obtain rfl : ob = some ⟨g2, 0, none⟩ := by simp only [Value.slice.injEq] at hv; exact hv.1
  obtain ⟨x, hx⟩ : ∃ x, L[i]? = some x := ⟨L[i]'hi, List.getElem?_eq_getElem _⟩
  have hm : x ∈ L := List.mem_of_getElem? hx
  have cell : ∀ j v, x.b.vals[j]? = some v → wr.cell? ⟨g2, i * 6 + j, none⟩ = some v := fun j v hj => by
    rw [cell_of_row wr g2 _ _ _ _ hg]
    have := vals_at L i j x v hx hj
    rw [← ht, List.getElem?_take] at this
    split at this
    · simpa using this
    · cases this
  exact ⟨g1, g2, x, rfl, rfl, hm, hl1 i _ (by rw [List.getElem?_map, hx]; rfl), ⟨cell 0 _ rfl, cell 1 _ rfl, cell 2 _ rfl, cell 3 _ rfl, cell 4 _ rfl, cell 5 _ rfl⟩⟩
end Go.Proofs.Ytbpnhpjcepgiiaa
