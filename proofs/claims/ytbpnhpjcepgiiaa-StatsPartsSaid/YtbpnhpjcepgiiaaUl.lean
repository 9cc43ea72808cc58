/- Stats: two tallies, the program's and the document's, stay alike. -/
import Derived.Test.YtbpnhpjcepgiiaaUh
namespace Go.Proofs.Ytbpnhpjcepgiiaa
open Go.RowKit Fl

/-- two words that are alike -/
structure LK (x y : Nat) : Prop where
  like : LikeF x y
  b1 : x < 18446744073709551616
  b2 : y < 18446744073709551616
theorem LK.refl {x : Nat} (h : x < 18446744073709551616) : LK x x := ⟨rfl, h, h⟩
theorem LK.add {x x' y y' r r' : Nat} (hx : LK x x') (hy : LK y y') (h : FopIs (Ieee.double.add x y) r) (h' : FopIs (Ieee.double.add x' y') r') : LK r r' := by
  rw [(like_ops hx.like hy.like hx.b1 hx.b2 hy.b1 hy.b2).1] at h
  exact ⟨h.like h', h.1, h'.1⟩
theorem LK.sub {x x' y y' r r' : Nat} (hx : LK x x') (hy : LK y y') (h : FopIs (Ieee.double.sub x y) r) (h' : FopIs (Ieee.double.sub x' y') r') : LK r r' := by
  rw [(like_ops hx.like hy.like hx.b1 hx.b2 hy.b1 hy.b2).2.1] at h
  exact ⟨h.like h', h.1, h'.1⟩
theorem LK.mul {x x' y y' r r' : Nat} (hx : LK x x') (hy : LK y y') (h : FopIs (Ieee.double.mul x y) r) (h' : FopIs (Ieee.double.mul x' y') r') : LK r r' := by
  rw [(like_ops hx.like hy.like hx.b1 hx.b2 hy.b1 hy.b2).2.2.1] at h
  exact ⟨h.like h', h.1, h'.1⟩
theorem LK.div {x x' y y' r r' : Nat} (hx : LK x x') (hy : LK y y') (h : FopIs (Ieee.double.div x y) r) (h' : FopIs (Ieee.double.div x' y') r') : LK r r' := by
  rw [(like_ops hx.like hy.like hx.b1 hx.b2 hy.b1 hy.b2).2.2.2] at h
  exact ⟨h.like h', h.1, h'.1⟩
theorem i2r_64 (n : Nat) : i2r n < 18446744073709551616 := by
  unfold i2r
  split
  · decide
  · exact Nat.lt_of_le_of_lt (Nat.min_le_right _ _) (by decide)
theorem ordF_lt (x y : Nat) : ordF x y < 0 ↔ placeW x < placeW y := by
  unfold ordF cmpI; split
  · simp; omega
  · split <;> simp <;> omega
theorem ordF_gt (x y : Nat) : 0 < ordF x y ↔ placeW y < placeW x := by
  unfold ordF cmpI; split
  · simp; omega
  · split <;> simp <;> omega
theorem place_min (f : Nat → Nat) (k : Nat) : placeW (minTo f (k + 1)) = min (placeW (minTo f k)) (placeW (f (k + 1))) := by
  show placeW (if ordF (f (k + 1)) (minTo f k) < 0 then f (k + 1) else minTo f k) = _
  by_cases h : ordF (f (k + 1)) (minTo f k) < 0
  · rw [if_pos h]; rw [ordF_lt] at h; omega
  · rw [if_neg h]; rw [ordF_lt] at h; omega
theorem place_max (f : Nat → Nat) (k : Nat) : placeW (maxTo f (k + 1)) = max (placeW (maxTo f k)) (placeW (f (k + 1))) := by
  show placeW (if 0 < ordF (f (k + 1)) (maxTo f k) then f (k + 1) else maxTo f k) = _
  by_cases h : 0 < ordF (f (k + 1)) (maxTo f k)
  · rw [if_pos h]; rw [ordF_gt] at h; omega
  · rw [if_neg h]; rw [ordF_gt] at h; omega
theorem place_least (x y : Nat) : placeW (leastF x y) = min (placeW x) (placeW y) := by
  unfold leastF
  by_cases h : ordF y x < 0
  · rw [if_pos h]; rw [ordF_lt] at h; omega
  · rw [if_neg h]; rw [ordF_lt] at h; omega
theorem place_greatest (x y : Nat) : placeW (greatestF x y) = max (placeW x) (placeW y) := by
  unfold greatestF
  by_cases h : 0 < ordF y x
  · rw [if_pos h]; rw [ordF_gt] at h; omega
  · rw [if_neg h]; rw [ordF_gt] at h; omega
theorem place_min3 (a b c : Nat) : placeW (minTo (f3 a b c) 2) = min (min (placeW a) (placeW b)) (placeW c) := by
  rw [place_min, place_min]; rfl
theorem place_max3 (a b c : Nat) : placeW (maxTo (f3 a b c) 2) = max (max (placeW a) (placeW b)) (placeW c) := by
  rw [place_max, place_max]; rfl
theorem place_min4 (a b c d : Nat) : placeW (minTo (f4 a b c d) 3) = min (min (min (placeW a) (placeW b)) (placeW c)) (placeW d) := by
  rw [place_min, place_min, place_min]; rfl
theorem place_max4 (a b c d : Nat) : placeW (maxTo (f4 a b c d) 3) = max (max (max (placeW a) (placeW b)) (placeW c)) (placeW d) := by
  rw [place_max, place_max, place_max]; rfl
theorem f4_lt (a b c d : Nat) (ha : a < 18446744073709551616) (hb : b < 18446744073709551616) (hc : c < 18446744073709551616) (hd : d < 18446744073709551616) (i : Nat) : f4 a b c d i < 18446744073709551616 := by
  unfold f4; split
  · exact ha
  · split
    · exact hb
    · split
      · exact hc
      · exact hd
theorem leastF_lt {x y : Nat} (hx : x < 18446744073709551616) (hy : y < 18446744073709551616) : leastF x y < 18446744073709551616 := by unfold leastF; split <;> assumption
theorem greatestF_lt {x y : Nat} (hx : x < 18446744073709551616) (hy : y < 18446744073709551616) : greatestF x y < 18446744073709551616 := by unfold greatestF; split <;> assumption

/-- the program's tally and the document's -/
structure Pair (a b : Ta) : Prop where
  n : a.n = b.n
  n0 : 0 ≤ a.n
  sum : LK a.sum b.sum
  mean : LK a.mean b.mean
  m : LK a.m b.m
  least : LK a.least b.least
  greatest : LK a.greatest b.greatest
  ord : placeW a.least ≤ placeW a.greatest
theorem Pair.zero : Pair ⟨0, 0, 0, 0, 0, 0⟩ ⟨0, 0, 0, 0, 0, 0⟩ :=
  have z : LK 0 0 := .refl (by decide)
  ⟨rfl, Int.le_refl _, z, z, z, z, z, Int.le_refl _⟩
theorem Pair.add {a b a' b' : Ta} {x : Nat} (h : Pair a b) (hx : x < 18446744073709551616) (ha : InAny a x a') (hb : InRef b x b') : Pair a' b' := by
  have lx : LK x x := .refl hx
  obtain ⟨d, q, d2, p, h1, h2, h3, h4, h5, h6⟩ := ha.d
  obtain ⟨e, r, e2, s, g1, g2, g3, g4, g5, g6⟩ := hb.d
  rw [← h.n] at g2
  have k1 := lx.sub h.mean h1 g1
  have k2 := k1.div (.refl (i2r_64 _)) h2 g2
  have k3 := h.mean.add k2 h3 g3
  have k4 := lx.sub k3 h4 g4
  have k5 := k1.mul k4 h5 g5
  have k6 := h.m.add k5 h6 g6
  have l0 : LK (if a.n = 0 then x else a.least) (if b.n = 0 then x else b.least) := by
    rw [← h.n]; split
    · exact lx
    · exact h.least
  have g0 : LK (if a.n = 0 then x else a.greatest) (if b.n = 0 then x else b.greatest) := by
    rw [← h.n]; split
    · exact lx
    · exact h.greatest
  have o0 : placeW (if a.n = 0 then x else a.least) ≤ placeW (if a.n = 0 then x else a.greatest) := by
    split
    · exact Int.le_refl _
    · exact h.ord
  have e1 := l0.like
  have e2 := g0.like
  unfold LikeF at e1 e2
  refine ⟨by rw [ha.n, hb.n, h.n], by rw [ha.n]; have := h.n0; omega, h.sum.add lx ha.sum hb.sum, k3, k6, ⟨?_, ?_, ?_⟩, ⟨?_, ?_, ?_⟩, ?_⟩
  · show placeW a'.least = placeW b'.least
    rw [ha.least, hb.least, place_min3, place_least]; omega
  · rw [ha.least]; exact minTo_lt _ 2 fun i _ => f3_lt _ _ _ l0.b1 g0.b1 hx i
  · rw [hb.least]; exact leastF_lt l0.b2 hx
  · show placeW a'.greatest = placeW b'.greatest
    rw [ha.greatest, hb.greatest, place_max3, place_greatest]; omega
  · rw [ha.greatest]; exact maxTo_lt _ 2 fun i _ => f3_lt _ _ _ l0.b1 g0.b1 hx i
  · rw [hb.greatest]; exact greatestF_lt g0.b2 hx
  · rw [ha.least, ha.greatest, place_min3, place_max3]; omega
theorem Pair.merge {a b c d a' b' : Ta} (h : Pair a b) (h2 : Pair c d) (ha : MergeIs a c a') (hb : RMergeIs b d b') : Pair a' b' := by
  obtain ⟨d1, y, y2, x1, x2, x3, x4, m1, q1, q2, q3, q4, q5, q6, q7, q8, q9, q10⟩ := ha.d
  obtain ⟨e1, z, z2, w1, w2, w3, w4, n1, r1, r2, r3, r4, r5, r6, r7, r8, r9, r10⟩ := hb.d
  rw [← h2.n] at r2 r8
  rw [← h.n, ← h2.n] at r3 r7
  rw [← h.n] at r6
  have k1 := h2.mean.sub h.mean q1 r1
  have k2 := k1.mul (.refl (i2r_64 _)) q2 r2
  have k3 := k2.div (.refl (i2r_64 _)) q3 r3
  have k4 := h.mean.add k3 q4 r4
  have k5 := k1.mul k1 q5 r5
  have k6 := k5.mul (.refl (i2r_64 _)) q6 r6
  have k7 := k6.div (.refl (i2r_64 _)) q7 r7
  have k8 := k7.mul (.refl (i2r_64 _)) q8 r8
  have k9 := h.m.add h2.m q9 r9
  have k10 := k9.add k8 q10 r10
  have l1 := h.least.like
  have l2 := h2.least.like
  have g1 := h.greatest.like
  have g2 := h2.greatest.like
  have o1 := h.ord
  have o2 := h2.ord
  unfold LikeF at l1 l2 g1 g2
  refine ⟨by rw [ha.n, hb.n, h.n, h2.n], by rw [ha.n]; have := h.n0; have := h2.n0; omega, h.sum.add h2.sum ha.sum hb.sum, k4, k10, ⟨?_, ?_, ?_⟩, ⟨?_, ?_, ?_⟩, ?_⟩
  · show placeW a'.least = placeW b'.least
    rw [ha.least, hb.least, place_min4, place_least]; omega
  · rw [ha.least]; exact minTo_lt _ 3 fun i _ => f4_lt _ _ _ _ h.least.b1 h.greatest.b1 h2.least.b1 h2.greatest.b1 i
  · rw [hb.least]; exact leastF_lt h.least.b2 h2.least.b2
  · show placeW a'.greatest = placeW b'.greatest
    rw [ha.greatest, hb.greatest, place_max4, place_greatest]; omega
  · rw [ha.greatest]; exact maxTo_lt _ 3 fun i _ => f4_lt _ _ _ _ h.least.b1 h.greatest.b1 h2.least.b1 h2.greatest.b1 i
  · rw [hb.greatest]; exact greatestF_lt h.greatest.b2 h2.greatest.b2
  · rw [ha.least, ha.greatest, place_min4, place_max4]; omega
/-- the first k numbers of f came into the document's t: t' -/
inductive RIns (f : Nat → Nat) (t : Ta) : Nat → Ta → Prop
  | zero : RIns f t 0 t
  | succ {k : Nat} {s s' : Ta} : RIns f t k s → InRef s (f k) s' → RIns f t (k + 1) s'
theorem Pair.ins {f : Nat → Nat} {a b : Ta} (h : Pair a b) : ∀ (k : Nat) (a' b' : Ta), (∀ i, i < k → f i < 18446744073709551616) → Ins f a k a' → RIns f b k b' → Pair a' b' := by
  intro k
  induction k with
  | zero => intro a' b' _ h1 h2; cases h1; cases h2; exact h
  | succ k ih =>
    intro a' b' hf h1 h2
    cases h1 with
    | succ p1 p2 => cases h2 with
      | succ q1 q2 => exact (ih _ _ (fun i hi => hf i (by omega)) p1 q1).add (hf k (by omega)) p2 q2
theorem RIns.n {f : Nat → Nat} {t t' : Ta} {k : Nat} (h : RIns f t k t') : t'.n = t.n + k := by
  induction h with
  | zero => simp
  | succ h1 h2 ih => rw [h2.n, ih]; push_cast; omega
theorem RIns.lt {f : Nat → Nat} {t t' : Ta} {k : Nat} (h : RIns f t k t') (h1 : t.least < 18446744073709551616) (h2 : t.greatest < 18446744073709551616) (hf : ∀ i, i < k → f i < 18446744073709551616) : t'.least < 18446744073709551616 ∧ t'.greatest < 18446744073709551616 := by
  induction h with
  | zero => exact ⟨h1, h2⟩
  | succ p1 p2 ih =>
    obtain ⟨i1, i2⟩ := ih fun i hi => hf i (by omega)
    refine ⟨?_, ?_⟩
    · rw [p2.least]; exact leastF_lt (by split; exact hf _ (by omega); exact i1) (hf _ (by omega))
    · rw [p2.greatest]; exact greatestF_lt (by split; exact hf _ (by omega); exact i2) (hf _ (by omega))
theorem Pair.ok {a b : Ta} (h : Pair a b) : TaOk a := ⟨h.n0, h.least.b1, h.greatest.b1⟩
end Go.Proofs.Ytbpnhpjcepgiiaa
