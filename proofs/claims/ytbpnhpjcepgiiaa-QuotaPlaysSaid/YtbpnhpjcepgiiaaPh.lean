/- QuotaPlays: what stands at the head of each round: the buckets, the document's, and what was put aside. -/
import Derived.Test.YtbpnhpjcepgiiaaPf
import Derived.Test.YtbpnhpjcepgiiaaPe
import Derived.Test.YtbpnhpjcepgiiaaKit
namespace Go.Proofs.Ytbpnhpjcepgiiaa
open Go.RowKit Fl

theorem hasRow.keptK {w w' : World} {base : Nat} {e : TypeId} {size : Nat} {v : Value} {n : Nat} {xs : List Value} {q s : Nat} (h : hasRow w base e size v n xs) (hk : Kept w w' q s) (h1 : v.ownBlock ≠ some q) (h2 : v.ownBlock ≠ some s) : hasRow w' base e size v n xs := by
  obtain ⟨hl, h | ⟨g, cap, cur, fr, rfl, hb, hg, h3⟩⟩ := h
  · exact ⟨hl, .inl h⟩
  · refine ⟨hl, .inr ⟨g, cap, cur, fr, rfl, hb, ?_, h3⟩⟩
    rw [hk.block g (Array.getElem?_eq_some_iff.1 hg).1 (fun e => h1 (by rw [← e]; rfl)) (fun e => h2 (by rw [← e]; rfl))]
    exact hg
theorem hasRow.neT {w : World} {base : Nat} {e : TypeId} {size : Nat} {v : Value} {n : Nat} {xs : List Value} {q : Nat} {c : Array Value} {T : TypeId} {fr : Nat × Nat} (h : hasRow w base e size v n xs) (hq : w.heap[q]? = some (.cells c T fr)) (hne : e ≠ T) : v.ownBlock ≠ some q := by
  obtain ⟨_, ⟨rfl, _⟩ | ⟨g, cap, cur, fr', rfl, _, hg, _⟩⟩ := h
  · intro h; cases h
  · intro h
    obtain rfl : g = q := by simpa [Value.ownBlock] using h
    rw [hg] at hq
    simp only [Option.some.injEq, Obj.cells.injEq] at hq
    exact hne hq.2.1

/-- what was put aside: quotas, and the document's buckets as they were -/
structure Sv where
  q : Nat
  v : Value
  bs : List Bk
structure SvOk (w : World) (B : Nat) (x : Sv) : Prop where
  hq : HasQ w x.q x.bs
  hr : hasRow w B 56 6 x.v 64 (x.bs.flatMap Bk.vals)
  bq : B ≤ x.q
  ok : ∀ (i : Nat) (b : Bk), x.bs[i]? = some b → BkOk b
structure PInv (wr w0 : World) (B q s : Nat) (bs : List Bk) (v11 v12 : Value) (L : List Sv) (k : Nat) : Prop where
  hq : HasQ wr q bs
  hr : HasR wr s 56 bs
  ok : ∀ (i : Nat) (b : Bk), bs[i]? = some b → BkOk b ∧ 0 ≤ b.times ∧ b.times ≤ k
  ro : hasRow wr B 29 1 v11 L.length (L.map fun x => .pointer (some ⟨x.q, 0, none⟩))
  rs : hasRow wr B 54 1 v12 L.length (L.map Sv.v)
  sv : ∀ x ∈ L, SvOk wr B x ∧ x.q ≠ q ∧ x.v.ownBlock ≠ some s
  below : Below B w0 wr
  b0 : B ≤ w0.heap.size
  bq : B ≤ q
  bs' : B ≤ s
theorem ne_types : (29 : TypeId) ≠ 70 ∧ (29 : TypeId) ≠ 56 ∧ (54 : TypeId) ≠ 70 ∧ (54 : TypeId) ≠ 56 ∧ (56 : TypeId) ≠ 70 ∧ (29 : TypeId) ≠ 54 := by decide

theorem SvOk.below {w w' : World} {B : Nat} {x : Sv} (h : SvOk w B x) (b : Below w.heap.size w w') : SvOk w' B x :=
  ⟨h.hq.below b, h.hr.kept (grown_below b none) (by cases h' : x.v.ownBlock <;> simp), h.bq, h.ok⟩
theorem PInv.next {wr w0 : World} {B q s : Nat} {bs : List Bk} {v11 v12 : Value} {L : List Sv} {k : Nat} (h : PInv wr w0 B q s bs v11 v12 L k) : PInv wr w0 B q s bs v11 v12 L (k + 1) :=
  { h with ok := fun i b hb => ⟨(h.ok i b hb).1, (h.ok i b hb).2.1, by have := (h.ok i b hb).2.2; omega⟩ }
theorem PInv.onBelow {wr w' w0 : World} {B q s : Nat} {bs : List Bk} {v11 v12 : Value} {L : List Sv} {k : Nat} (h : PInv wr w0 B q s bs v11 v12 L k) (b : Below wr.heap.size wr w') : PInv w' w0 B q s bs v11 v12 L k :=
  { h with
    hq := h.hq.below b
    hr := h.hr.below b
    ro := h.ro.kept (grown_below b none) (by cases h' : v11.ownBlock <;> simp)
    rs := h.rs.kept (grown_below b none) (by cases h' : v12.ownBlock <;> simp)
    sv := fun x hx => ⟨(h.sv x hx).1.below b, (h.sv x hx).2⟩
    below := h.below.trans (b.mono (Nat.le_trans h.b0 h.below.size)) }
theorem PInv.onAsk {wr w' w0 : World} {B q s c : Nat} {bs : List Bk} {v11 v12 : Value} {L : List Sv} {k : Nat} {b' b : Bk} (h : PInv wr w0 B q s bs v11 v12 L k) (hq : HasQ w' q (bs.set c b')) (hr : HasR w' s 56 (bs.set c b'))
    (hb : bs[c]? = some b) (hok : BkOk b') (h0 : 0 ≤ b'.times) (h1 : b'.times ≤ b.times + 1) (hk : Kept wr w' q s) : PInv w' w0 B q s (bs.set c b') v11 v12 L (k + 1) where
  hq := hq
  hr := hr
  ok := fun i b2 hb2 => by
    by_cases hi : c = i
    · subst hi
      rw [List.getElem?_set_self (List.getElem?_eq_some_iff.1 hb).1] at hb2
      obtain rfl := Option.some.inj hb2
      exact ⟨hok, h0, by have := (h.ok c b hb).2.2; omega⟩
    · rw [List.getElem?_set_ne hi] at hb2
      exact ⟨(h.ok i b2 hb2).1, (h.ok i b2 hb2).2.1, by have := (h.ok i b2 hb2).2.2; omega⟩
  ro := h.ro.keptK hk (h.ro.neT h.hq.2 ne_types.1) (h.ro.neT h.hr.2 ne_types.2.1)
  rs := h.rs.keptK hk (h.rs.neT h.hq.2 ne_types.2.2.1) (h.rs.neT h.hr.2 ne_types.2.2.2.1)
  sv := fun x hx => by
    obtain ⟨h1, h2, h3⟩ := h.sv x hx
    refine ⟨⟨h1.hq.of (hk.block x.q h1.hq.lt h2 fun e => ?_), h1.hr.keptK hk (h1.hr.neT h.hq.2 ne_types.2.2.2.2.1) h3, h1.bq, h1.ok⟩, h2, h3⟩
    have := h1.hq.2
    rw [e, h.hr.2] at this
    simp only [Option.some.injEq, Obj.cells.injEq] at this
    exact ne_types.2.2.2.2.1 this.2.1
  below := ⟨hk.os.trans h.below.os, hk.tape.trans h.below.tape, hk.output.trans h.below.output, Nat.le_trans h.below.size hk.size, fun i hi => (hk.block i (Nat.lt_of_lt_of_le hi (Nat.le_trans h.b0 h.below.size)) (by have := h.bq; omega) (by have := h.bs'; omega)).trans (h.below.block i hi)⟩
  b0 := h.b0
  bq := h.bq
  bs' := h.bs'

theorem PInv.qs_ne {wr w0 : World} {B q s : Nat} {bs : List Bk} {v11 v12 : Value} {L : List Sv} {k : Nat} (h : PInv wr w0 B q s bs v11 v12 L k) : q ≠ s := fun e => by
  have h1 := h.hq.2
  rw [e, h.hr.2] at h1
  simp only [Option.some.injEq, Obj.cells.injEq] at h1
  exact ne_types.2.2.2.2.1 h1.2.1
theorem rows_ne {w : World} {B B' : Nat} {e e' : TypeId} {size size' : Nat} {v v' : Value} {n n' : Nat} {xs xs' : List Value} (h : hasRow w B e size v n xs) (h' : hasRow w B' e' size' v' n' xs') (hne : e ≠ e') : v.ownBlock = none ∨ v.ownBlock ≠ v'.ownBlock := by
  obtain ⟨_, ⟨rfl, _⟩ | ⟨ga, ca, cua, fra, rfl, _, hga, _⟩⟩ := h'
  · by_cases hn : v.ownBlock = none
    · exact .inl hn
    · exact .inr hn
  · exact .inr (h.neT hga hne)
theorem one_of_row {w : World} {B : Nat} {e : TypeId} {size : Nat} {v : Value} {n : Nat} {xs : List Value} (h : hasRow w B e size v n xs) : v.oneCell' = true := by
  obtain ⟨_, ⟨rfl, _⟩ | ⟨g, c, cu, fr, rfl, _⟩⟩ := h <;> rfl
theorem row_form {w : World} {B : Nat} {e : TypeId} {size : Nat} {v : Value} {n : Nat} {xs : List Value} (h : hasRow w B e size v n xs) (hn : n ≠ 0) : ∃ g cap, v = .slice (some ⟨g, 0, none⟩) n cap := by
  obtain ⟨_, ⟨_, h0⟩ | ⟨g, c, cu, fr, rfl, _⟩⟩ := h
  · exact absurd h0 hn
  · exact ⟨g, c, rfl⟩
theorem emptyRow (w : World) (T : TypeId) (size : Nat) : hasRow (w.alloc (.cells #[] T)) w.heap.size T size (.slice (some ⟨w.heap.size, 0, none⟩) 0 0) 0 [] :=
  ⟨by simp, .inr ⟨_, 0, #[], (0, 0), rfl, Nat.le_refl _, heap_alloc_new _ _, Nat.le_refl _, Nat.zero_le _, by simp, fun j hj => by simp at hj, by simp⟩⟩
theorem vals_one (bs : List Bk) : ∀ v ∈ bs.flatMap Bk.vals, v.oneCell' = true := by
  intro v hv
  obtain ⟨b, _, hb⟩ := List.mem_flatMap.1 hv
  simp only [Bk.vals, List.mem_cons, List.not_mem_nil, or_false] at hb
  rcases hb with rfl | rfl | rfl | rfl | rfl | rfl <;> rfl
/-- a row of the document's buckets as what is appended -/
theorem HasR.src {w : World} {s : Nat} {T u e : TypeId} {bs : List Bk} (hu : Try.prog.underlying u = some (.slice e)) (h : HasR w s T bs) : Src Try.prog w 6 u (.slice (some ⟨s, 0, none⟩) 64 64) 64 (bs.flatMap Bk.vals) :=
  Src.slice hu ⟨s, 0, none⟩ 64 64 _ (by rw [flat_length, h.1]) (fun j v hv => by
    have : (⟨s, 0, none⟩ : Addr).add j = ⟨s, j, none⟩ := by unfold Addr.add; split <;> simp_all
    rw [this, cell_of_row w s j _ _ _ h.2]
    simpa [encR] using hv) (vals_one bs)

/-- the old quotas and buckets are put aside, the quotas go on as a copy -/
theorem PInv.aside {wr w1 w2 w3 w4 w5 w6 w7 w0 : World} {B q s g0 q' : Nat} {bs : List Bk} {v11 v12 v11' v12' v : Value} {L : List Sv} {k : Nat} (h : PInv wr w0 B q s bs v11 v12 L k)
    (a1 : Below wr.heap.size wr w1)
    (r2 : hasRow w2 B 29 1 v11' (L.length + 1) ((L.map fun x => Value.pointer (some ⟨x.q, 0, none⟩)) ++ [.pointer (some ⟨q, 0, none⟩)])) (g2 : w1.grownBy w2 v11.ownBlock)
    (a3 : Below w2.heap.size w2 w3) (hg0 : g0 = w2.heap.size)
    (r4 : hasRow w4 g0 56 6 v 64 (bs.flatMap Bk.vals)) (g4 : w3.grownBy w4 (some g0))
    (a5 : Below w4.heap.size w4 w5)
    (r6 : hasRow w6 B 54 1 v12' (L.length + 1) (L.map Sv.v ++ [v])) (g6 : w5.grownBy w6 v12.ownBlock)
    (hq' : HasQ w7 q' bs) (a7 : Below w6.heap.size w6 w7) (hqq : q' = w6.heap.size) :
    PInv w7 w0 B q' s bs v11' v12' (L ++ [⟨q, v, bs⟩]) k := by
  have z1 := a1.size
  have z2 := g2.size
  have z3 := a3.size
  have z4 := g4.size
  have z5 := a5.size
  have z6 := g6.size
  have z7 := a7.size
  have zB : B ≤ wr.heap.size := Nat.le_trans h.b0 h.below.size
  -- what stood and is in neither row stands
  have keep : ∀ i, i < wr.heap.size → v11.ownBlock ≠ some i → v12.ownBlock ≠ some i → w7.heap[i]? = wr.heap[i]? := fun i hi h1 h2 => by
    rw [a7.block i (by omega), g6.block i (by omega) (fun e => h2 e.symm), a5.block i (by omega), g4.block i (by omega) (by simp; omega), a3.block i (by omega), g2.block i (by omega) (fun e => h1 e.symm), a1.block i hi]
  have q11 := h.ro.neT h.hq.2 ne_types.1
  have q12 := h.rs.neT h.hq.2 ne_types.2.2.1
  have s11 := h.ro.neT h.hr.2 ne_types.2.1
  have s12 := h.rs.neT h.hr.2 ne_types.2.2.2.1
  have ro' : hasRow w7 B 29 1 v11' (L.length + 1) ((L.map fun x => Value.pointer (some ⟨x.q, 0, none⟩)) ++ [.pointer (some ⟨q, 0, none⟩)]) := by
    have r3 := r2.kept (grown_below a3 none) (by cases v11'.ownBlock <;> simp)
    have r4' := r3.kept g4 (by
      right; intro e
      have := (r2.lt g0 e).2; omega)
    have r5 := r4'.kept (grown_below a5 none) (by cases v11'.ownBlock <;> simp)
    have r6' := r5.kept g6 (by
      by_cases hn : v11'.ownBlock = none
      · exact .inl hn
      · right; intro e
        obtain ⟨g, hg⟩ := Option.ne_none_iff_exists'.1 hn
        -- the two rows' types differ
        have t12 : hasRow w5 B 54 1 v12 L.length (L.map Sv.v) := by
          have u1 := h.rs.kept (grown_below a1 none) (by cases v12.ownBlock <;> simp)
          have u2 := u1.kept g2 (by
            by_cases hn2 : v12.ownBlock = none
            · exact .inl hn2
            · right; intro e2
              obtain ⟨_, ⟨hh, _⟩ | ⟨ga, ca, cua, fra, hva, _, hga, _⟩⟩ := h.ro
              · rw [hh] at e2; exact hn2 e2
              · exact h.rs.neT hga (by exact fun e => ne_types.2.2.2.2.2 e.symm) (by rw [e2, hva]; rfl))
          have u3 := u2.kept (grown_below a3 none) (by cases v12.ownBlock <;> simp)
          have u4 := u3.kept g4 (by right; intro e2; have := (h.rs.lt g0 e2).2; omega)
          exact u4.kept (grown_below a5 none) (by cases v12.ownBlock <;> simp)
        obtain ⟨_, ⟨hh, _⟩ | ⟨ga, ca, cua, fra, hva, _, hga, _⟩⟩ := t12
        · rw [e, hh] at hg; cases hg
        · exact r5.neT hga ne_types.2.2.2.2.2 (by rw [e, hva]; rfl))
    exact r6'.kept (grown_below a7 none) (by cases v11'.ownBlock <;> simp)
  have rs' : hasRow w7 B 54 1 v12' (L.length + 1) (L.map Sv.v ++ [v]) := r6.kept (grown_below a7 none) (by cases v12'.ownBlock <;> simp)
  have rv : hasRow w7 B 56 6 v 64 (bs.flatMap Bk.vals) := by
    have r5 := r4.kept (grown_below a5 none) (by cases v.ownBlock <;> simp)
    have r6' := r5.kept g6 (by
      by_cases hn : v.ownBlock = none
      · exact .inl hn
      · right; intro e
        obtain ⟨g, hg⟩ := Option.ne_none_iff_exists'.1 hn
        have h1 := (r4.lt g hg).1
        have h2 := (h.rs.lt g (by rw [← e]; exact hg)).2
        omega)
    exact (r6'.kept (grown_below a7 none) (by cases v.ownBlock <;> simp)).mono (by omega)
  have vs : v.ownBlock ≠ some s := fun e => by
    have h1 := (r4.lt s e).1
    have := h.hr.lt
    omega
  refine ⟨hq', h.hr.of (keep s h.hr.lt s11 s12), h.ok, by simpa using ro', by simpa using rs', ?_, ?_, h.b0, by omega, h.bs'⟩
  · intro x hx
    rcases List.mem_append.1 hx with hx | hx
    · obtain ⟨h1, h2, h3⟩ := h.sv x hx
      have k1 : x.q < wr.heap.size := h1.hq.lt
      refine ⟨⟨h1.hq.of (keep x.q k1 (h.ro.neT h1.hq.2 ne_types.1) (h.rs.neT h1.hq.2 ne_types.2.2.1)), ?_, h1.bq, h1.ok⟩, by omega, h3⟩
      obtain ⟨hl, hh | ⟨g, cap, cur, fr, hv, hb, hg, hrest⟩⟩ := h1.hr
      · exact ⟨hl, .inl hh⟩
      · exact ⟨hl, .inr ⟨g, cap, cur, fr, hv, hb, by rw [keep g (Array.getElem?_eq_some_iff.1 hg).1 (h.ro.neT hg ne_types.2.1) (h.rs.neT hg ne_types.2.2.2.1)]; exact hg, hrest⟩⟩
    · obtain rfl := List.mem_singleton.1 hx
      exact ⟨⟨h.hq.of (keep q h.hq.lt q11 q12), rv, h.bq, fun i b hb => (h.ok i b hb).1⟩, by have := h.hq.lt; show q ≠ q'; omega, vs⟩
  · have n11 : ∀ i, i < B → v11.ownBlock ≠ some i := fun i hi e => by have := (h.ro.lt i e).1; omega
    have n12 : ∀ i, i < B → v12.ownBlock ≠ some i := fun i hi e => by have := (h.rs.lt i e).1; omega
    exact ⟨a7.os.trans (g6.os.trans (a5.os.trans (g4.os.trans (a3.os.trans (g2.os.trans (a1.os.trans h.below.os)))))), a7.tape.trans (g6.tape.trans (a5.tape.trans (g4.tape.trans (a3.tape.trans (g2.tape.trans (a1.tape.trans h.below.tape)))))),
      a7.output.trans (g6.output.trans (a5.output.trans (g4.output.trans (a3.output.trans (g2.output.trans (a1.output.trans h.below.output)))))), by have := h.below.size; omega,
      fun i hi => (keep i (by omega) (n11 i hi) (n12 i hi)).trans (h.below.block i hi)⟩

theorem told_same (q c : Nat) (bs : List Bk) (b : Bk) (w : World) (h : HasQ w q bs) (hb : bs[c]? = some b) (hok : BkOk b) :
    Calls Try.prog 30 #[.pointer (some ⟨q, 0, none⟩), .agg #[.float .f64 b.rate, .float .f64 b.burst, .float .f64 b.level, .int .i64 b.time, .float .f64 b.paid, .int .i64 b.times], .int .i64 c] w
      fun e w' => e = .returned (.bool true) ∧ Below w.heap.size w w' :=
  (told_b q c bs b w h hb hok).mono fun e w' ⟨h1, h2, h3⟩ => ⟨h1, h3.os, h3.tape, h3.output, h3.size, fun k hk => by
    by_cases hq : q = k
    · subst hq; rw [h2.2, h.2]
    · exact h3.block k hk (by simp; exact fun e => hq e.symm)⟩
theorem row_any {w : World} {B : Nat} {e : TypeId} {size : Nat} {v : Value} {n : Nat} {xs : List Value} (h : hasRow w B e size v n xs) : ∃ oa cap, v = .slice oa n cap := by
  obtain ⟨_, ⟨rfl, rfl⟩ | ⟨g, c, cu, fr, rfl, _⟩⟩ := h
  · exact ⟨_, _, rfl⟩
  · exact ⟨_, _, rfl⟩
theorem row_some {w : World} {B : Nat} {e : TypeId} {size : Nat} {oa : Option Addr} {cap n : Nat} {xs : List Value} (h : hasRow w B e size (.slice oa n cap) n xs) (hn : 0 < n) : ∃ g, oa = some ⟨g, 0, none⟩ ∧ n ≤ cap ∧ ∀ j u, xs[j]? = some u → w.cell? ⟨g, j, none⟩ = some u := by
  obtain ⟨_, ⟨_, h0⟩ | ⟨g, c, cu, fr, hv, _, hg, hc, _, hs, _, ht⟩⟩ := h
  · omega
  · simp only [Value.slice.injEq] at hv
    obtain ⟨rfl, -, rfl⟩ := hv
    refine ⟨g, rfl, hc, fun j u hj => ?_⟩
    rw [cell_of_row w g j _ _ _ hg]
    rw [← ht] at hj
    rw [List.getElem?_take] at hj
    split at hj
    · simpa using hj
    · cases hj
/-- a bucket's six cells in a row of the document's -/
theorem bk_cells {w : World} {g : Nat} {bs : List Bk} {j : Nat} {b : Bk} (h : ∀ i u, (bs.flatMap Bk.vals)[i]? = some u → w.cell? ⟨g, i, none⟩ = some u) (hb : bs[j]? = some b) :
    w.cell? ⟨g, j * 6, none⟩ = some (.float .f64 b.rate) ∧ w.cell? ⟨g, j * 6 + 1, none⟩ = some (.float .f64 b.burst) ∧ w.cell? ⟨g, j * 6 + 2, none⟩ = some (.float .f64 b.level) ∧
    w.cell? ⟨g, j * 6 + 3, none⟩ = some (.int .i64 b.time) ∧ w.cell? ⟨g, j * 6 + 4, none⟩ = some (.float .f64 b.paid) ∧ w.cell? ⟨g, j * 6 + 5, none⟩ = some (.int .i64 b.times) := by
  obtain ⟨hj, rfl⟩ := List.getElem?_eq_some_iff.1 hb
  exact ⟨h _ _ ((flat_get bs j 0 hj (by omega)).trans rfl), h _ _ (by rw [flat_get bs j 1 hj (by omega)]; rfl), h _ _ (by rw [flat_get bs j 2 hj (by omega)]; rfl),
    h _ _ (by rw [flat_get bs j 3 hj (by omega)]; rfl), h _ _ (by rw [flat_get bs j 4 hj (by omega)]; rfl), h _ _ (by rw [flat_get bs j 5 hj (by omega)]; rfl)⟩
theorem HasR.cells {w : World} {s : Nat} {T : TypeId} {bs : List Bk} (h : HasR w s T bs) : ∀ i u, (bs.flatMap Bk.vals)[i]? = some u → w.cell? ⟨s, i, none⟩ = some u := fun i u hu => by
  rw [cell_of_row w s i _ _ _ h.2]
  simpa [encR] using hu
end Go.Proofs.Ytbpnhpjcepgiiaa
