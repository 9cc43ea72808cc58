/- The texts Mo, Mp, Pzu, Pm, Pzv, Yg, Za in one. -/
import Derived.Test.YtlgcoaeddeiegaaGreatV3
import Derived.Test.YtlgcoaeddeiegaaGreatV10
import Derived.WalkKit
import Derived.Test.YtlgcoaeddeiegaaGreatV22
import Derived.Test.YtlgcoaeddeiegaaGreatV9
import Derived.Test.YtlgcoaeddeiegaaGreatV14
import Derived.Test.YtlgcoaeddeiegaaGreatV15
/- record: Same, SameAll; the document's Large. -/
namespace Go.Proofs.YtlgcoaeddeiegaaGreat
open Go Go.RowKit
attribute [local go_sem] Oper.semAt_some

theorem run_string_rdR {P : Program} (w : World) (src dst e : TypeId) (oa : Option Addr) (n c : Nat) (l : List UInt8) (hl : l.length = n) (hs : P.underlying src = some (.slice e)) (he : P.underlying e = some (.int .u8)) (hd : P.underlying dst = some .string)
    (h : readAt w 1 (.slice oa n c) n (byteCells l)) : (convert src dst (.slice oa n c)).run P w = .ok (.string ⟨l.toArray⟩) w := by
  subst hl
  rcases h.2 with ⟨h0, oa', c', hv, hn⟩ | ⟨g, off, c', hv, h0, hg, hc, hj⟩
  · simp only [Value.slice.injEq] at hv
    obtain ⟨rfl, -, rfl⟩ := hv
    have hl : l = [] := List.eq_nil_of_length_eq_zero h0
    subst hl
    cases oa with
    | none => 
      obtain rfl := hn rfl
      exact run_string_row w 0 src dst e _ [] hs he hd ⟨rfl, .inl ⟨rfl, rfl⟩⟩
    | some a => exact run_convert_bytes_back w src dst e a c [] hs he hd fun j hj => by cases hj
  · simp only [Value.slice.injEq] at hv
    obtain ⟨rfl, -, rfl⟩ := hv
    refine run_convert_bytes_back w src dst e ⟨g, off, none⟩ c l hs he hd fun j hj' => ?_
    rw [Go.WideShapes.add_plain]
    exact hj j _ (by simp [byteCells, hj'])
set_option maxHeartbeats 400000 in
theorem bytesEqR_b {w : World} {oa ob : Option Addr} {n c m d : Nat} {a b : List UInt8} (hn : a.length = n) (hm : b.length = m) (ha : readAt w 1 (.slice oa n c) n (byteCells a)) (hb : readAt w 1 (.slice ob m d) m (byteCells b)) :
    Calls Tryz.prog 157 #[.slice oa n c, .slice ob m d] w fun e w' => e = .returned (.bool (decide (a = b))) ∧ w' = w := by
  have h1 := run_string_rdR (P := Tryz.prog) w 39 9 5 oa n c a hn Tryz.underlying39 Tryz.underlying5 Tryz.underlying9 ha
  have h2 := run_string_rdR (P := Tryz.prog) w 39 9 5 ob m d b hm Tryz.underlying39 Tryz.underlying5 Tryz.underlying9 hb
  have he : (a == b) = decide (a = b) := by by_cases h : a = b <;> simp [h]
  have HE := Lib.hid he
  clear ha hb he
  go_enter Tryz.func157, Tryz.ntmps157
  go_wp2_with fail
  go_ret
  refine ⟨?_, rfl⟩
  rw [← HE.out]
  rfl
set_option maxRecDepth 100000 in
set_option maxHeartbeats 1000000 in
/-- two records are the same, where they are -/
theorem recSame_b {w : World} {t1 t2 : Int} {oa ob oc od : Option Addr} {n c m d n2 c2 m2 d2 : Nat} {k1 v1 k2 v2 : List UInt8} (e1 : k1.length = n) (e2 : v1.length = m) (e3 : k2.length = n2) (e4 : v2.length = m2)
    (h1 : readAt w 1 (.slice oa n c) n (byteCells k1)) (h2 : readAt w 1 (.slice ob m d) m (byteCells v1)) (h3 : readAt w 1 (.slice oc n2 c2) n2 (byteCells k2)) (h4 : readAt w 1 (.slice od m2 d2) m2 (byteCells v2)) :
    Calls Tryz.prog 90 #[.agg #[.int .i64 t1, .slice oa n c, .slice ob m d], .agg #[.int .i64 t2, .slice oc n2 c2, .slice od m2 d2]] w fun e w' => e = .returned (.bool (decide (t1 = t2) && decide (k1 = k2) && decide (v1 = v2))) ∧ Below w.heap.size w w' := by
  obtain ⟨w1, hw1⟩ : ∃ W : World, W = (w.alloc (.cells #[.int .i64 t1, .slice oa n c, .slice ob m d] 150)).alloc (.cells #[.int .i64 t2, .slice oc n2 c2, .slice od m2 d2] 150) := ⟨_, rfl⟩
  obtain ⟨b2, hb2⟩ : ∃ b, b = w.heap.size := ⟨_, rfl⟩
  obtain ⟨b3, hb3⟩ : ∃ b, b = w.heap.size + 1 := ⟨_, rfl⟩
  have g2 : w1.heap[b2]? = some (.cells #[.int .i64 t1, .slice oa n c, .slice ob m d] 150 (0, 0)) := by rw [hw1, hb2]; exact (Below.heap_alloc _ _ _ (by simp)).trans (alloc_cells _ _ _)
  have g3 : w1.heap[b3]? = some (.cells #[.int .i64 t2, .slice oc n2 c2, .slice od m2 d2] 150 (0, 0)) := by
    rw [hw1, hb3]
    have := alloc_cells (w.alloc (.cells #[.int .i64 t1, .slice oa n c, .slice ob m d] 150)) #[.int .i64 t2, .slice oc n2 c2, .slice od m2 d2] 150
    rwa [World.size_alloc] at this
  have hbl : Below w.heap.size w w1 := by rw [hw1]; exact ((Below.refl _ _).alloc (Nat.le_refl _) _).alloc (by simp) _
  have q0 : w1.cell? ⟨b2, 0, none⟩ = some (.int .i64 t1) := cell_of g2 rfl
  have q1 : w1.cell? ⟨b2, 1, none⟩ = some (.slice oa n c) := cell_of g2 rfl
  have q2 : w1.cell? ⟨b2, 2, none⟩ = some (.slice ob m d) := cell_of g2 rfl
  have r0 : w1.cell? ⟨b3, 0, none⟩ = some (.int .i64 t2) := cell_of g3 rfl
  have r1 : w1.cell? ⟨b3, 1, none⟩ = some (.slice oc n2 c2) := cell_of g3 rfl
  have r2 : w1.cell? ⟨b3, 2, none⟩ = some (.slice od m2 d2) := cell_of g3 rfl
  have HK := Lib.hid (bytesEqR_b e1 e3 (h1.kept (fun k hk _ _ => hbl.block k hk)) (h3.kept (fun k hk _ _ => hbl.block k hk)))
  have HV := Lib.hid (bytesEqR_b e2 e4 (h2.kept (fun k hk _ _ => hbl.block k hk)) (h4.kept (fun k hk _ _ => hbl.block k hk)))
  have HB := Lib.hid hbl
  clear e1 e2 e3 e4 h1 h2 h3 h4 g2 g3 hbl
  by_cases ht : t1 = t2
  · have dt : (t1 == t2) = true := by rw [beq_iff_eq]; exact ht
    have HT : Hid (decide (t1 = t2) = true) := Lib.hid (decide_eq_true ht)
    clear ht
    by_cases hk : k1 = k2
    · have hk' : decide (k1 = k2) = true := decide_eq_true hk
      rw [hk'] at HK ⊢
      rw [HT.out]
      clear hk hk'
      go_enter Tryz.func90, Tryz.ntmps90
      go_upto_region 1 with fail
      rw [← hw1, ← hb3, ← hb2]
      clear hw1 hb3 hb2
      go_wp2_with fail
      refine HK.out.mono ?_
      rintro e w2 ⟨rfl, hw2⟩
      obtain rfl := hw2.symm
      clear hw2
      go_wp2_with fail
      refine HV.out.mono ?_
      rintro e w2 ⟨rfl, hw2⟩
      obtain rfl := hw2.symm
      clear hw2
      go_wp2_with fail
      go_ret
      exact ⟨by simp, HB.out⟩
    · have hk' : decide (k1 = k2) = false := decide_eq_false hk
      rw [hk'] at HK ⊢
      rw [HT.out]
      clear hk hk'
      go_enter Tryz.func90, Tryz.ntmps90
      go_upto_region 1 with fail
      rw [← hw1, ← hb3, ← hb2]
      clear hw1 hb3 hb2
      go_wp2_with fail
      refine HK.out.mono ?_
      rintro e w2 ⟨rfl, hw2⟩
      obtain rfl := hw2.symm
      clear hw2
      go_wp2_with fail
      go_ret
      exact ⟨by simp, HB.out⟩
  · have dt : (t1 == t2) = false := by rw [beq_eq_false_iff_ne]; exact ht
    have HT : Hid (decide (t1 = t2) = false) := Lib.hid (decide_eq_false ht)
    clear ht
    rw [HT.out]
    go_enter Tryz.func90, Tryz.ntmps90
    go_upto_region 1 with fail
    rw [← hw1, ← hb3, ← hb2]
    clear hw1 hb3 hb2
    go_wp2_with fail
    go_ret
    exact ⟨by simp, HB.out⟩
theorem rc_eq (a b : Rc) : (decide (a.time = b.time) && decide (a.key = b.key) && decide (a.val = b.val)) = decide (a = b) := by
  obtain ⟨t, k, v⟩ := a
  obtain ⟨t', k', v'⟩ := b
  by_cases h1 : t = t' <;> by_cases h2 : k = k' <;> by_cases h3 : v = v' <;> simp [h1, h2, h3]
end Go.Proofs.YtlgcoaeddeiegaaGreat
/- record: SameAll; the document's Large. -/
namespace Go.Proofs.YtlgcoaeddeiegaaGreat
open Go Go.RowKit
attribute [local go_sem] Oper.semAt_some

set_option maxRecDepth 100000 in
set_option maxHeartbeats 2000000 in
theorem equalFunc_b {w : World} {oa ob : Option Addr} {n c m d : Nat} {xs ys : List RcV} {l k : List Rc} (hl : xs.map (·.r) = l) (hk : ys.map (·.r) = k) (hn : xs.length = n) (hm : ys.length = m) (h1 : RecsIs w (.slice oa n c) xs) (h2 : RecsIs w (.slice ob m d) ys) (hnm : n ≤ 1000000000) :
    Calls Tryz.prog 89 #[.slice oa n c, .slice ob m d, .func (.func 90) #[] #[]] w fun e w' => e = .returned (.bool (decide (l = k))) ∧ Below w.heap.size w w' := by
  have HL := Lib.hid (And.intro hl (And.intro hk (And.intro hn hm)))
  have HLL : Hid (l.length = n ∧ k.length = m) := Lib.hid ⟨by rw [← hl, List.length_map, hn], by rw [← hk, List.length_map, hm]⟩
  have H := Lib.hid (And.intro h1 h2)
  clear hl hk hn hm h1 h2
  by_cases hnm2 : n = m
  case neg =>
    have hd : ((n : Int) == (m : Int)) = false := by rw [beq_eq_false_iff_ne]; omega
    have hne : decide (l = k) = false := decide_eq_false (fun e => by
      have h3 := HLL.out
      rw [e] at h3
      omega)
    have HD := Lib.hid hne
    clear hne
    go_enter Tryz.func89, Tryz.ntmps89
    go_wp2_with fail
    go_ret
    exact ⟨by rw [HD.out]; rfl, Below.refl _ _⟩
  case pos =>
    subst hnm2
    go_enter Tryz.func89, Tryz.ntmps89
    go_wp2_with fail
    go_loopw [17] (fun i wr => ∃ j : Nat, i = .int .i64 (j : Int) ∧ j ≤ n ∧ Hid (l.take j = k.take j ∧ Below w.heap.size w wr)) (fun i _ => n - (intOf i).toNat)
    case atStart => exact ⟨0, rfl, by omega, Lib.hid ⟨by simp, Below.refl _ _⟩⟩
    case round =>
      obtain ⟨j, rfl, hj, HI⟩ := hrel
      by_cases hlt : j < n
      · have hjx : j < xs.length := by rw [HL.out.2.2.1]; exact hlt
        have hjy : j < ys.length := by rw [HL.out.2.2.2]; exact hlt
        have hjl : j < l.length := by rw [HLL.out.1]; exact hlt
        have hjk : j < k.length := by rw [HLL.out.2]; exact hlt
        have g1 := H.out.1.below HI.out.2
        have g2 := H.out.2.below HI.out.2
        have e1 := g1.each xs[j] (List.getElem_mem hjx)
        have e2 := g2.each ys[j] (List.getElem_mem hjy)
        obtain ⟨ga, fa, ka, kc, va, vc, rfl, hkv, hvv, c0, c1, c2⟩ := g1.cells HL.out.2.2.1 hjx
        obtain ⟨gb, fb, kb, kd, vb, vd, rfl, hkw, hvw, d0, d1, d2⟩ := g2.cells HL.out.2.2.2 hjy
        have hx : xs[j].r = l[j] := by simp [← HL.out.1]
        have hy : ys[j].r = k[j] := by simp [← HL.out.2.1]
        rw [hkv, hvv] at e1
        rw [hkw, hvw] at e2
        have e11 : readAt wr 1 (.slice ka xs[j].r.key.length kc) xs[j].r.key.length (byteCells xs[j].r.key) := e1.1
        have e12 : readAt wr 1 (.slice va xs[j].r.val.length vc) xs[j].r.val.length (byteCells xs[j].r.val) := e1.2
        have e21 : readAt wr 1 (.slice kb ys[j].r.key.length kd) ys[j].r.key.length (byteCells ys[j].r.key) := e2.1
        have e22 : readAt wr 1 (.slice vb ys[j].r.val.length vd) ys[j].r.val.length (byteCells ys[j].r.val) := e2.2
        rw [hx] at c0 c1 c2 e11 e12
        rw [hy] at d0 d1 d2 e21 e22
        have HT : Hid (l.take (j + 1) = l.take j ++ [l[j]] ∧ k.take (j + 1) = k.take j ++ [k[j]] ∧ l[j]? = some l[j] ∧ k[j]? = some k[j]) := Lib.hid ⟨List.take_succ_eq_append_getElem hjl, List.take_succ_eq_append_getElem hjk, List.getElem?_eq_getElem hjl, List.getElem?_eq_getElem hjk⟩
        obtain ⟨r, hr⟩ : ∃ r, l[j] = r := ⟨_, rfl⟩
        obtain ⟨s, hs⟩ : ∃ s, k[j] = s := ⟨_, rfl⟩
        rw [hr] at c0 c1 c2 e11 e12 HT
        rw [hs] at d0 d1 d2 e21 e22 HT
        obtain ⟨rt, hrt⟩ : ∃ x, r.time = x := ⟨_, rfl⟩
        obtain ⟨rk, hrk⟩ : ∃ x, r.key.length = x := ⟨_, rfl⟩
        obtain ⟨rv, hrv⟩ : ∃ x, r.val.length = x := ⟨_, rfl⟩
        obtain ⟨st, hst⟩ : ∃ x, s.time = x := ⟨_, rfl⟩
        obtain ⟨sk, hsk⟩ : ∃ x, s.key.length = x := ⟨_, rfl⟩
        obtain ⟨sv, hsv⟩ : ∃ x, s.val.length = x := ⟨_, rfl⟩
        rw [hrt] at c0
        rw [hrk] at c1 e11
        rw [hrv] at c2 e12
        rw [hst] at d0
        rw [hsk] at d1 e21
        rw [hsv] at d2 e22
        have hgb : gb < wr.heap.size := World.block_lt_of_cell? _ _ d0
        have hbA : Below wr.heap.size wr (wr.alloc (.cells #[.int .i64 rt, .slice ka rk kc, .slice va rv vc] 150)) := (Below.refl _ _).alloc (Nat.le_refl _) _
        have d0a := (hbA.cell (p := ⟨gb, fb + j * 3, none⟩) hgb).trans d0
        have d1a := (hbA.cell (p := ⟨gb, fb + j * 3 + 1, none⟩) hgb).trans d1
        have d2a := (hbA.cell (p := ⟨gb, fb + j * 3 + 2, none⟩) hgb).trans d2
        clear hgb hbA
        obtain ⟨w1, hw1⟩ : ∃ W : World, W = (wr.alloc (.cells #[.int .i64 rt, .slice ka rk kc, .slice va rv vc] 150)).alloc (.cells #[.int .i64 st, .slice kb sk kd, .slice vb sv vd] 150) := ⟨_, rfl⟩
        obtain ⟨b8, hb8⟩ : ∃ b, b = wr.heap.size := ⟨_, rfl⟩
        obtain ⟨b9, hb9⟩ : ∃ b, b = wr.heap.size + 1 := ⟨_, rfl⟩
        have q8 : w1.heap[b8]? = some (.cells #[.int .i64 rt, .slice ka rk kc, .slice va rv vc] 150 (0, 0)) := by rw [hw1, hb8]; exact (Below.heap_alloc _ _ _ (by simp)).trans (alloc_cells _ _ _)
        have q9 : w1.heap[b9]? = some (.cells #[.int .i64 st, .slice kb sk kd, .slice vb sv vd] 150 (0, 0)) := by
          rw [hw1, hb9]
          have := alloc_cells (wr.alloc (.cells #[.int .i64 rt, .slice ka rk kc, .slice va rv vc] 150)) #[.int .i64 st, .slice kb sk kd, .slice vb sv vd] 150
          rwa [World.size_alloc] at this
        have hbl : Below wr.heap.size wr w1 := by rw [hw1]; exact ((Below.refl _ _).alloc (Nat.le_refl _) _).alloc (by simp) _
        have hsm := recSame_b (w := w1) (t1 := rt) (t2 := st) hrk hrv hsk hsv (e11.kept (fun i hi _ _ => hbl.block i hi)) (e12.kept (fun i hi _ _ => hbl.block i hi)) (e21.kept (fun i hi _ _ => hbl.block i hi)) (e22.kept (fun i hi _ _ => hbl.block i hi))
        obtain ⟨q, hq⟩ : ∃ q, (decide (rt = st) && decide (r.key = s.key) && decide (r.val = s.val)) = q := ⟨_, rfl⟩
        rw [hq] at hsm
        have HQ : Hid (decide (r = s) = q) := Lib.hid (by rw [← rc_eq, hrt, hst]; exact hq)
        have HSM := Lib.hid hsm
        have HB := Lib.hid hbl
        have y0 : w1.cell? ⟨b8, 0, none⟩ = some (.int .i64 rt) := cell_of q8 rfl
        have y1 : w1.cell? ⟨b8, 1, none⟩ = some (.slice ka rk kc) := cell_of q8 rfl
        have y2 : w1.cell? ⟨b8, 2, none⟩ = some (.slice va rv vc) := cell_of q8 rfl
        have z0 : w1.cell? ⟨b9, 0, none⟩ = some (.int .i64 st) := cell_of q9 rfl
        have z1 : w1.cell? ⟨b9, 1, none⟩ = some (.slice kb sk kd) := cell_of q9 rfl
        have z2 : w1.cell? ⟨b9, 2, none⟩ = some (.slice vb sv vd) := cell_of q9 rfl
        clear hjx hjy hjl hjk g1 g2 e1 e2 hkv hvv hkw hvw hx hy e11 e12 e21 e22 hr hs hrt hrk hrv hst hsk hsv q8 q9 hbl hsm hq
        go_upto_region 7 with fail
        rw [← hw1, ← hb9, ← hb8]
        clear hw1 hb9 hb8 d0a d1a d2a c0 c1 c2 d0 d1 d2
        go_wp2_with fail
        refine HSM.out.mono ?_
        rintro e w2 ⟨rfl, hb2⟩
        have HB2 := Lib.hid (HI.out.2.trans ((HB.out.trans (hb2.mono HB.out.size)).mono HI.out.2.size))
        clear hb2 HSM
        cases q with
        | false =>
          have hne : decide (l = k) = false := decide_eq_false (fun e => by
            have h1 := HT.out.2.2.1
            rw [e, HT.out.2.2.2] at h1
            simp only [Option.some.injEq] at h1
            have h2 := HQ.out
            rw [h1, decide_eq_true rfl] at h2
            cases h2)
          have HD := Lib.hid hne
          clear hne
          go_wp2_with fail
          go_ret
          exact ⟨by rw [HD.out]; rfl, HB2.out⟩
        | true =>
          go_wp2_with fail
          refine ⟨⟨j + 1, by simp, by omega, Lib.hid ⟨?_, HB2.out⟩⟩, by simp [intOf]; omega⟩
          rw [HT.out.1, HT.out.2.1, HI.out.1, of_decide_eq_true HQ.out]
      · obtain rfl : j = n := by omega
        have heq : decide (l = k) = true := decide_eq_true (by
          have h1 := HI.out.1
          rwa [List.take_of_length_le (by rw [HLL.out.1]; exact Nat.le_refl _), List.take_of_length_le (by rw [HLL.out.2]; exact Nat.le_refl _)] at h1)
        have HD := Lib.hid heq
        have HB := Lib.hid HI.out.2
        clear heq HI hlt
        go_wp2_with fail
        go_ret
        exact ⟨by rw [HD.out]; rfl, HB.out⟩
set_option maxHeartbeats 400000 in
theorem sameAll_b {w : World} {oa ob : Option Addr} {n c m d : Nat} {xs ys : List RcV} {l k : List Rc} (hl : xs.map (·.r) = l) (hk : ys.map (·.r) = k) (hn : xs.length = n) (hm : ys.length = m) (h1 : RecsIs w (.slice oa n c) xs) (h2 : RecsIs w (.slice ob m d) ys) (hnm : n ≤ 1000000000) :
    Calls Tryz.prog 24 #[.slice oa n c, .slice ob m d] w fun e w' => e = .returned (.bool (decide (l = k))) ∧ Below w.heap.size w w' := by
  have H := Lib.hid (equalFunc_b hl hk hn hm h1 h2 hnm)
  clear hl hk hn hm h1 h2
  go_enter Tryz.func24, Tryz.ntmps24
  go_wp2_with fail
  refine H.out.mono ?_
  rintro e w2 ⟨rfl, hb⟩
  have HB := Lib.hid hb
  clear hb H
  go_wp2_with fail
  go_ret
  exact ⟨rfl, HB.out⟩
/-- more than is done by a statement -/
def Rc.large (r : Rc) : Bool := decide (9000 < r.key.length) || decide (9000 < r.val.length)
def largeT (n : Nat) (l : List Rc) : Bool := decide (n < l.length) || l.any Rc.large
set_option maxRecDepth 100000 in
set_option maxHeartbeats 1000000 in
theorem large_b {w : World} {oa : Option Addr} {n c : Nat} {xs : List RcV} {l : List Rc} {most : Nat} (hl : xs.map (·.r) = l) (hn : xs.length = n) (h1 : RecsIs w (.slice oa n c) xs) (hm : most ≤ 1000000) (hnm : n ≤ maxLen) :
    Calls Tryz.prog 57 #[.int .i64 (most : Int), .slice oa n c] w fun e w' => e = .returned (.bool (largeT most l)) ∧ w' = w := by
  have hln : l.length = n := by rw [← hl, List.length_map, hn]
  have HL := Lib.hid (And.intro hl (And.intro hn hln))
  have H := Lib.hid h1
  unfold maxLen at hnm
  clear hl hn h1 hln
  by_cases hbig : most < n
  · have hd : decide ((most : Int) < (n : Int)) = true := decide_eq_true (by omega)
    have hd2 : decide (most < n) = true := decide_eq_true hbig
    have HT : Hid (largeT most l = true) := Lib.hid (by unfold largeT; rw [HL.out.2.2, hd2]; rfl)
    go_enter Tryz.func57, Tryz.ntmps57
    go_wp2_with fail
    go_ret
    exact ⟨by rw [HT.out]; rfl, rfl⟩
  · have hd : decide ((most : Int) < (n : Int)) = false := decide_eq_false (by omega)
    have hd2 : decide (most < n) = false := decide_eq_false hbig
    have HT : Hid (largeT most l = l.any Rc.large) := Lib.hid (by unfold largeT; rw [HL.out.2.2, hd2]; rfl)
    go_enter Tryz.func57, Tryz.ntmps57
    go_wp2_with fail
    go_loopw [5] (fun i wr => ∃ j : Nat, i = .int .i64 (j : Int) ∧ j ≤ n ∧ wr = w ∧ Hid ((l.take j).any Rc.large = false)) (fun i _ => n - (intOf i).toNat)
    case atStart => exact ⟨0, rfl, by omega, rfl, Lib.hid (by simp)⟩
    case round =>
      obtain ⟨j, rfl, hj, rfl, HI⟩ := hrel
      by_cases hlt : j < n
      · have hjx : j < xs.length := by rw [HL.out.2.1]; exact hlt
        have hjl : j < l.length := by rw [HL.out.2.2]; exact hlt
        obtain ⟨ga, fa, ka, kc, va, vc, rfl, -, -, c0, c1, c2⟩ := H.out.cells HL.out.2.1 hjx
        have hx : xs[j].r = l[j] := by simp [← HL.out.1]
        rw [hx] at c1 c2
        have HTK : Hid (l.take (j + 1) = l.take j ++ [l[j]] ∧ l[j] ∈ l) := Lib.hid ⟨List.take_succ_eq_append_getElem hjl, List.getElem_mem hjl⟩
        obtain ⟨r, hr⟩ : ∃ r, l[j] = r := ⟨_, rfl⟩
        rw [hr] at c1 c2 HTK
        obtain ⟨rk, hrk⟩ : ∃ x, r.key.length = x := ⟨_, rfl⟩
        obtain ⟨rv, hrv⟩ : ∃ x, r.val.length = x := ⟨_, rfl⟩
        rw [hrk] at c1
        rw [hrv] at c2
        have HR : Hid (r.large = (decide (9000 < rk) || decide (9000 < rv))) := Lib.hid (by unfold Rc.large; rw [hrk, hrv])
        clear hjx hjl hx hr hrk hrv c0
        by_cases h9 : 9000 < rk ∨ 9000 < rv
        · have HTT : Hid (largeT most l = true) := Lib.hid (by
            rw [HT.out]
            refine List.any_eq_true.2 ⟨r, HTK.out.2, ?_⟩
            rw [HR.out]
            rcases h9 with h | h
            · rw [decide_eq_true h]; rfl
            · rw [decide_eq_true h]; simp)
          by_cases hk9 : 9000 < rk
          · have e1 : decide ((9000 : Int) < (rk : Int)) = true := decide_eq_true (by omega)
            have e1' : decide (9000 < rk) = true := decide_eq_true hk9
            go_wp2_with fail
            go_ret
            exact ⟨by rw [HTT.out]; rfl, rfl⟩
          · have e1 : decide ((9000 : Int) < (rk : Int)) = false := decide_eq_false (by omega)
            have e1' : decide (9000 < rk) = false := decide_eq_false hk9
            have e2 : decide ((9000 : Int) < (rv : Int)) = true := decide_eq_true (by omega)
            have e2' : decide (9000 < rv) = true := decide_eq_true (by omega)
            go_wp2_with fail
            go_ret
            exact ⟨by rw [HTT.out]; rfl, rfl⟩
        · have e1 : decide ((9000 : Int) < (rk : Int)) = false := decide_eq_false (by omega)
          have e1' : decide (9000 < rk) = false := decide_eq_false (by omega)
          have e2 : decide ((9000 : Int) < (rv : Int)) = false := decide_eq_false (by omega)
          have e2' : decide (9000 < rv) = false := decide_eq_false (by omega)
          rw [e1', e2'] at HR
          go_wp2_with fail
          refine ⟨⟨j + 1, by simp, by omega, trivial, Lib.hid ?_⟩, by simp [intOf]; omega⟩
          rw [HTK.out.1, List.any_append, HI.out]
          simp [HR.out]
      · obtain rfl : j = n := by omega
        have HTT : Hid (largeT most l = false) := Lib.hid (by
          rw [HT.out]
          have h1 := HI.out
          rwa [List.take_of_length_le (by rw [HL.out.2.2]; exact Nat.le_refl _)] at h1)
        clear HI
        go_wp2_with fail
        go_ret
        exact ⟨by rw [HTT.out]; rfl, rfl⟩
end Go.Proofs.YtlgcoaeddeiegaaGreat
/- law11: scripts; vast. -/
namespace Go.Proofs.YtlgcoaeddeiegaaGreat
open Go Go.Maps Go.RowKit
attribute [local go_sem] Oper.semAt_some

theorem readAt_cellP {w : World} {size n c g off : Nat} {xs : List Value} (h : readAt w size (.slice (some ⟨g, off, none⟩) n c) n xs) {i : Nat} {u : Value} (hu : xs[i]? = some u) : w.cell? ⟨g, off + i, none⟩ = some u := by
  have := h.cells (g := g) (off := off) rfl i u hu
  simpa [Go.WideShapes.add_plain] using this
structure StpV where
  kind : Int
  most : Int
  frm : Int
  unt : Int
  rv : Value
  recs : List Rc
  fv : Value
  pv : Value
  nm : ByteArray
  bv : Value
  nf : Nat
  np : Nat
  nb : Nat
def StpV.cells (x : StpV) : List Value := [.int .i64 x.kind, .int .i64 x.most, .int .i64 x.frm, .int .i64 x.unt, x.rv, x.fv, x.pv, .string x.nm, x.bv]
structure StpOk (w : World) (x : StpV) : Prop where
  recs : RecsAt w x.rv x.recs
  rsl : ∃ oa c, x.rv = .slice oa x.recs.length c
  fsl : ∃ oa c, x.fv = .slice oa x.nf c
  psl : ∃ oa c, x.pv = .slice oa x.np c
  bsl : ∃ oa c, x.bv = .slice oa x.nb c
  lens : x.recs.length ≤ 9223372036854775807 ∧ x.nf ≤ 9223372036854775807 ∧ x.np ≤ 9223372036854775807 ∧ x.nb ≤ 9223372036854775807
structure StepsAt (w : World) (v : Value) (L : List StpV) : Prop where
  row : readAt w 9 v L.length (L.flatMap StpV.cells)
  each : ∀ x ∈ L, StpOk w x
  sl : ∃ oa c, v = .slice oa L.length c
  len : L.length ≤ 9223372036854775807
theorem StpOk.below {w w' : World} {x : StpV} (h : StpOk w x) (hb : Below w.heap.size w w') : StpOk w' x := { h with recs := h.recs.below hb }
theorem StepsAt.below {w w' : World} {v : Value} {L : List StpV} (h : StepsAt w v L) (hb : Below w.heap.size w w') : StepsAt w' v L :=
  { h with row := h.row.kept (fun k hk _ _ => hb.block k hk), each := fun x hx => (h.each x hx).below hb }
/-- a script that is no more than is done here -/
def SmallS (L : List StpV) : Prop := L.length ≤ 60 ∧ ∀ x ∈ L, largeT 30 x.recs = false ∧ x.nb ≤ 2000 ∧ x.np ≤ 100 ∧ x.nf ≤ 30
/-- a step's cells -/
theorem StepsAt.at {w : World} {oa : Option Addr} {n c t : Nat} {L : List StpV} (h : StepsAt w (.slice oa n c) L) (hn : L.length = n) (ht : t < L.length) : ∃ g off, oa = some ⟨g, off, none⟩ ∧ ∀ i, i < 9 → ∀ u, L[t].cells[i]? = some u → w.cell? ⟨g, off + (t * 9 + i), none⟩ = some u := by
  subst hn
  obtain ⟨g, off, rfl⟩ := h.row.addr (by omega)
  exact ⟨g, off, rfl, fun i hi u hu => readAt_cellP h.row (by rw [flat_get (f := StpV.cells) (m := 9) (fun _ => rfl) L t ht i hi, hu])⟩
/-- what vast answers -/
def VastIs (L : List StpV) (w : World) (e : Ending) (w' : World) : Prop := ∃ b, e = .returned (.bool b) ∧ w' = w ∧ (b = false → SmallS L)
set_option maxRecDepth 100000 in
set_option maxHeartbeats 4000000 in
theorem vast11_b {w : World} {oa : Option Addr} {n c : Nat} {L : List StpV} (h : StepsAt w (.slice oa n c) L) (hn : L.length = n) :
    Calls Tryz.prog 12 #[.slice oa n c] w fun e w' => VastIs L w e w' := by
  have H := Lib.hid (And.intro h hn)
  have hnL : n ≤ 9223372036854775807 := by rw [← hn]; exact h.len
  clear h hn
  go_enter Tryz.func12, Tryz.ntmps12
  by_cases hbig : 60 < n
  · have hd : decide ((60 : Int) < (n : Int)) = true := decide_eq_true (by omega)
    have hd' : decide (60 < n) = true := decide_eq_true hbig
    go_wp2_with fail
    go_ret
    exact ⟨true, rfl, rfl, fun h => by cases h⟩
  have hd : decide ((60 : Int) < (n : Int)) = false := decide_eq_false (by omega)
  have hd' : decide (60 < n) = false := decide_eq_false hbig
  go_wp2_with fail
  go_loopw [3] (fun i wr => ∃ j : Nat, i = .int .i64 (j : Int) ∧ j ≤ n ∧ Hid (wr = w ∧ ∀ k (hk : k < L.length), k < j → largeT 30 L[k].recs = false ∧ L[k].nb ≤ 2000 ∧ L[k].np ≤ 100 ∧ L[k].nf ≤ 30)) (fun i _ => n - (intOf i).toNat)
  case atStart => exact ⟨0, rfl, Nat.zero_le _, Lib.hid ⟨rfl, fun k _ hk => absurd hk (Nat.not_lt_zero _)⟩⟩
  case round =>
    obtain ⟨j, rfl, hj, HI⟩ := hrel
    obtain rfl := HI.out.1.symm
    by_cases hlt : j < n
    · have hjl : j < L.length := by rw [H.out.2]; exact hlt
      obtain ⟨g, off, rfl, hcell⟩ := H.out.1.at H.out.2 hjl
      obtain ⟨x, hx⟩ : ∃ x, x = L[j] := ⟨_, rfl⟩
      rw [← hx] at hcell
      have hok := H.out.1.each x (by rw [hx]; exact List.getElem_mem _)
      obtain ⟨o1, e1, h1⟩ := hok.rsl
      obtain ⟨o2, e2, h2⟩ := hok.fsl
      obtain ⟨o3, e3, h3⟩ := hok.psl
      obtain ⟨o4, e4, h4⟩ := hok.bsl
      have k4 : w.cell? ⟨g, off + j * 9 + 4, none⟩ = some (.slice o1 x.recs.length e1) := hcell 4 (by omega) _ (by rw [← h1]; rfl)
      have k5 : w.cell? ⟨g, off + j * 9 + 5, none⟩ = some (.slice o2 x.nf e2) := hcell 5 (by omega) _ (by rw [← h2]; rfl)
      have k6 : w.cell? ⟨g, off + j * 9 + 6, none⟩ = some (.slice o3 x.np e3) := hcell 6 (by omega) _ (by rw [← h3]; rfl)
      have k8 : w.cell? ⟨g, off + j * 9 + 8, none⟩ = some (.slice o4 x.nb e4) := hcell 8 (by omega) _ (by rw [← h4]; rfl)
      obtain ⟨rs, hrs, hri⟩ := hok.recs
      rw [h1] at hri
      have hll := hok.lens
      have hlg := large_b (most := 30) hrs (n := x.recs.length) (by rw [← hrs, List.length_map]) hri (by omega) (by unfold maxLen; omega)
      obtain ⟨lg, hlg2⟩ : ∃ b, largeT 30 x.recs = b := ⟨_, rfl⟩
      rw [hlg2] at hlg
      have HLG := Lib.hid hlg
      have HX := Lib.hid (And.intro hx (And.intro hlg2 hll))
      clear hcell hok h1 h2 h3 h4 hrs hri hlg hlg2 hx hll
      go_wp2_with fail
      refine HLG.out.mono ?_
      rintro e V ⟨rfl, hV⟩
      obtain rfl := hV.symm
      clear hV
      cases lg
      case true =>
        go_wp2_with fail
        go_ret
        exact ⟨true, rfl, rfl, fun h => by cases h⟩
      case false =>
        by_cases hA : 2000 < x.nb
        · have dA : decide ((2000 : Int) < (x.nb : Int)) = true := decide_eq_true (by omega)
          have dA' : decide (2000 < x.nb) = true := decide_eq_true hA
          go_wp2_with fail
          go_ret
          exact ⟨true, rfl, rfl, fun h => by cases h⟩
        have dA : decide ((2000 : Int) < (x.nb : Int)) = false := decide_eq_false (by omega)
        have dA' : decide (2000 < x.nb) = false := decide_eq_false hA
        by_cases hB : 100 < x.np
        · have dB : decide ((100 : Int) < (x.np : Int)) = true := decide_eq_true (by omega)
          have dB' : decide (100 < x.np) = true := decide_eq_true hB
          go_wp2_with fail
          go_ret
          exact ⟨true, rfl, rfl, fun h => by cases h⟩
        have dB : decide ((100 : Int) < (x.np : Int)) = false := decide_eq_false (by omega)
        have dB' : decide (100 < x.np) = false := decide_eq_false hB
        by_cases hC : 30 < x.nf
        · have dC : decide ((30 : Int) < (x.nf : Int)) = true := decide_eq_true (by omega)
          have dC' : decide (30 < x.nf) = true := decide_eq_true hC
          go_wp2_with fail
          go_ret
          exact ⟨true, rfl, rfl, fun h => by cases h⟩
        have dC : decide ((30 : Int) < (x.nf : Int)) = false := decide_eq_false (by omega)
        have dC' : decide (30 < x.nf) = false := decide_eq_false hC
        go_wp2_with fail
        refine ⟨⟨j + 1, by simp, by omega, Lib.hid ⟨by trivial, fun k hk hkj => ?_⟩⟩, by simp [intOf]; omega⟩
        by_cases hkj2 : k < j
        · exact HI.out.2 k hk hkj2
        · obtain rfl : k = j := by omega
          rw [← HX.out.1]
          exact ⟨HX.out.2.1, by omega, by omega, by omega⟩
    · obtain rfl : j = n := by omega
      go_wp2_with fail
      go_ret
      exact ⟨false, rfl, rfl, fun _ => ⟨by have := H.out.2; omega, fun x hx => by
        obtain ⟨k, hk, rfl⟩ := List.getElem_of_mem hx
        exact HI.out.2 k hk (by have := H.out.2; omega)⟩⟩
end Go.Proofs.YtlgcoaeddeiegaaGreat
/- A log of segments, plainly: how it rolls. -/
namespace Go.Proofs.YtlgcoaeddeiegaaGreat
open Go

section
variable {β : Type} (sz cn : β → Nat)
def szs (l : List β) : Nat := (l.map sz).sum
def cns (l : List β) : Nat := (l.map cn).sum
/-- a batch is appended: a segment that is long enough is left, and a new one begun -/
def putL (roll : Nat) (b : β) : List (Nat × List β) → List (Nat × List β)
  | [] => []
  | [(n, bs)] => if roll ≤ szs sz bs then [(n, bs), (n + cns cn bs, [b])] else [(n, bs ++ [b])]
  | s :: t :: r => s :: putL roll b (t :: r)
/-- segments behind one another, each as long as it must be, each of them (but the first) with a batch -/
def Rolls (roll : Nat) : Nat → Bool → List (Nat × List β) → Prop
  | _, _, [] => False
  | bn, f, [(n, bs)] => n = bn ∧ (bs = [] → f = true) ∧ ∀ i l, bs = i ++ [l] → szs sz i < roll
  | bn, f, (n, bs) :: t :: r => n = bn ∧ (bs = [] → f = true) ∧ (∀ i l, bs = i ++ [l] → szs sz i < roll) ∧ roll ≤ szs sz bs ∧ Rolls roll (bn + cns cn bs) false (t :: r)
theorem Rolls.ne {roll bn : Nat} {f : Bool} {segs : List (Nat × List β)} (h : Rolls sz cn roll bn f segs) : segs ≠ [] := fun e => by
  subst e
  exact h
theorem Rolls.put {roll : Nat} (hr : 1 ≤ roll) (b : β) : ∀ (segs : List (Nat × List β)) (bn : Nat) (f : Bool), Rolls sz cn roll bn f segs → Rolls sz cn roll bn f (putL sz cn roll b segs)
  | [], _, _, h => h
  | [(n, bs)], bn, f, h => by
    obtain ⟨rfl, h2, h3⟩ := h
    unfold putL
    by_cases h4 : roll ≤ szs sz bs
    · rw [if_pos h4]
      refine ⟨rfl, h2, h3, h4, ?_⟩
      show (n + cns cn bs = n + cns cn bs) ∧ ([b] = [] → false = true) ∧ _
      refine ⟨rfl, fun e => (by simp at e), fun i l e => ?_⟩
      have : i = [] := by
        cases i with
        | nil => rfl
        | cons a t =>
          have := congrArg List.length e
          simp at this
      subst this
      show (0 : Nat) < roll
      omega
    · rw [if_neg h4]
      refine ⟨rfl, fun e => by simp at e, fun i l e => ?_⟩
      obtain ⟨rfl, -⟩ := List.append_inj' e rfl
      omega
  | s :: t :: r, bn, f, h => by
    obtain ⟨n, bs⟩ := s
    obtain ⟨rfl, h2, h3, h4, h5⟩ := h
    have ih := Rolls.put hr b (t :: r) _ _ h5
    unfold putL
    cases hp : putL sz cn roll b (t :: r) with
    | nil =>
      rw [hp] at ih
      exact ih.elim
    | cons u v =>
      rw [hp] at ih
      exact ⟨rfl, h2, h3, h4, ih⟩
theorem putL_all (roll : Nat) (b : β) : ∀ segs : List (Nat × List β), segs ≠ [] → (putL sz cn roll b segs).flatMap (·.2) = segs.flatMap (·.2) ++ [b]
  | [], h => absurd rfl h
  | [(n, bs)], _ => by
    unfold putL
    split <;> simp
  | s :: t :: r, _ => by
    unfold putL
    rw [List.flatMap_cons, putL_all roll b (t :: r) (by simp), List.flatMap_cons (x := s), List.append_assoc]
/-- where the last one ends -/
def endL : Nat → List (Nat × List β) → Nat
  | bn, [] => bn
  | _, (n, bs) :: r => endL (n + cns cn bs) r
theorem endL_all {roll : Nat} : ∀ (segs : List (Nat × List β)) (bn : Nat) (f : Bool), Rolls sz cn roll bn f segs → endL cn bn segs = bn + cns cn (segs.flatMap (·.2))
  | [], _, _, h => h.elim
  | [(n, bs)], bn, f, h => by
    obtain ⟨rfl, -, -⟩ := h
    simp [endL]
  | s :: t :: r, bn, f, h => by
    obtain ⟨n, bs⟩ := s
    obtain ⟨rfl, -, -, -, h5⟩ := h
    show endL cn (n + cns cn bs) (t :: r) = _
    rw [endL_all (t :: r) _ _ h5, List.flatMap_cons]
    simp [cns]
    omega
end
end Go.Proofs.YtlgcoaeddeiegaaGreat
/- PartlogRolls, plainly: what any appends make of a log without fates. -/
namespace Go.Proofs.YtlgcoaeddeiegaaGreat
open Go Go.RowKit

def bSize (b : Bat) : Nat := rcsSize b.2
def bCnt (b : Bat) : Nat := b.2.length
theorem szs_bats (bs : List Bat) : szs bSize bs = (batsT bs).length := by
  unfold szs batsT
  rw [List.length_flatMap]
  congr 1
  exact List.map_congr_left (fun b _ => (batchT_len b.1 b.2).symm)
theorem cns_bats (bs : List Bat) : cns bCnt bs = cntT bs := rfl
theorem putL_snoc {roll : Nat} {b : Bat} : ∀ (A : List (Nat × List Bat)) (n : Nat) (bs : List Bat), putL bSize bCnt roll b (A ++ [(n, bs)]) = A ++ (if roll ≤ szs bSize bs then [(n, bs), (n + cns bCnt bs, [b])] else [(n, bs ++ [b])])
  | [], n, bs => by
    show putL bSize bCnt roll b [(n, bs)] = _
    unfold putL
    split <;> rfl
  | [s], n, bs => by
    show putL bSize bCnt roll b (s :: (n, bs) :: []) = _
    rw [putL]
    have := putL_snoc (roll := roll) (b := b) [] n bs
    rw [List.nil_append] at this
    rw [this]
    rfl
  | s :: t :: A, n, bs => by
    show putL bSize bCnt roll b (s :: t :: (A ++ [(n, bs)])) = _
    rw [putL]
    have := putL_snoc (roll := roll) (b := b) (t :: A) n bs
    rw [List.cons_append] at this
    rw [this]
    rfl
theorem putT_segs (roll : Nat) (g : Lg) (l : List Rc) : (g.putT roll l).segs = putL bSize bCnt roll ((g.fin : Int), l) g.segs := by
  unfold Lg.putT
  have h := putL_snoc (roll := roll) (b := ((g.fin : Int), l)) g.ini g.lb g.lbs
  rw [show g.ini ++ [(g.lb, g.lbs)] = g.segs from rfl] at h
  rw [h, szs_bats]
  split
  · show g.segs ++ [(g.fin, [((g.fin : Int), l)])] = _
    unfold Lg.segs Lg.fin
    rw [cns_bats]
    simp
  · rfl
/-- what stands after some appends -/
structure RollI (roll : Nat) (g : Lg) (d : Dk) (R : List Rc) (t : Nat) : Prop where
  calm : Calm pName g d
  rolls : Rolls bSize bCnt roll 0 true g.segs
  recs : g.recs = R
  fin : g.fin = R.length
  few : g.segs.length ≤ t + 1
  small : R.length ≤ 30 * t
theorem endL_snoc : ∀ (A : List (Nat × List Bat)) (k n : Nat) (bs : List Bat), endL bCnt k (A ++ [(n, bs)]) = n + cns bCnt bs
  | [], _, _, _ => rfl
  | (m, cs) :: A, _, n, bs => endL_snoc A (m + cns bCnt cs) n bs
theorem cns_recs : ∀ bs : List Bat, cns bCnt bs = (recsT bs).length := fun bs => by rw [cns_bats, recsT_len]
theorem flat_recs (L : List (Nat × List Bat)) : (L.flatMap fun s => recsT s.2) = recsT (L.flatMap (·.2)) := by
  induction L with
  | nil => rfl
  | cons s r ih => rw [List.flatMap_cons, List.flatMap_cons, recsT_append, ih]
theorem rolls_fin {roll : Nat} {g : Lg} (h : Rolls bSize bCnt roll 0 true g.segs) : g.fin = g.recs.length := by
  have h1 := endL_all bSize bCnt g.segs 0 true h
  have h2 := endL_snoc g.ini 0 g.lb g.lbs
  rw [show g.ini ++ [(g.lb, g.lbs)] = g.segs from rfl] at h2
  rw [h2] at h1
  unfold Lg.recs
  rw [flat_recs, ← cns_recs]
  show g.lb + cntT g.lbs = _
  rw [← cns_bats, h1]
  omega
theorem RollI.zero {roll : Nat} : RollI roll Lg.zero (Dk.new.first pName) [] 0 := by
  obtain ⟨-, -, c0⟩ := first_calm pName_ok (d := Dk.new) rfl rfl
  refine ⟨c0, ?_, rfl, rfl, Nat.le_refl _, Nat.le_refl _⟩
  show (0 = 0) ∧ ([] = [] → true = true) ∧ _
  exact ⟨rfl, fun _ => rfl, fun i l e => by
    have h0 : ([] : List Bat) = i ++ [l] := e
    simp at h0⟩
/-- an Append that may be -/
theorem RollI.put {roll : Nat} (hr : 1 ≤ roll ∧ roll ≤ 16711680) {g : Lg} {d : Dk} {R l : List Rc} {t : Nat} (h : RollI roll g d R t) (ht : t < 60) (hf : (fitsT l).2 = 0) (hl : l.length ≤ 30) :
    g.appendT pName roll d l = (0, g.putT roll l, (g.appendT pName roll d l).2.2) ∧ RollI roll (g.putT roll l) (g.appendT pName roll d l).2.2 (R ++ l) (t + 1) := by
  have h1 := h.few
  have h2 := h.small
  have h3 := h.fin
  obtain ⟨a1, a2⟩ := appendT_calm pName_ok (roll := roll) (l := l) h.calm hr (by omega) hf (by omega)
  have hro : Rolls bSize bCnt roll 0 true (g.putT roll l).segs := by
    rw [putT_segs]
    exact h.rolls.put bSize bCnt hr.1 _ _ _ _
  have hrec : (g.putT roll l).recs = R ++ l := by
    rw [← h.recs]
    unfold Lg.recs
    rw [flat_recs, flat_recs, putT_segs, putL_all bSize bCnt roll _ _ (by unfold Lg.segs; simp), recsT_append]
    congr 1
    unfold recsT
    simp
  refine ⟨a1, a2, hro, hrec, by rw [rolls_fin hro, hrec], ?_, by rw [List.length_append]; omega⟩
  unfold Lg.putT
  split
  · show (g.segs ++ [_]).length ≤ _
    rw [List.length_append, List.length_singleton]
    omega
  · show (g.ini ++ [_]).length ≤ _
    rw [List.length_append, List.length_singleton]
    unfold Lg.segs at h1
    rw [List.length_append, List.length_singleton] at h1
    omega
/-- an Append that may not be -/
theorem RollI.not {roll : Nat} {g : Lg} {d : Dk} {R l : List Rc} {t : Nat} (h : RollI roll g d R t) (hf : (fitsT l).2 ≠ 0) : g.appendT pName roll d l = ((fitsT l).2, g, d) ∧ RollI roll g d R (t + 1) := by
  refine ⟨?_, ⟨h.calm, h.rolls, h.recs, h.fin, by have := h.few; omega, by have := h.small; omega⟩⟩
  unfold Lg.appendT
  rw [if_neg (by rw [h.calm.alive]; simp), if_pos hf]
theorem rolls_get {β : Type} {sz cn : β → Nat} {roll : Nat} : ∀ (segs : List (Nat × List β)) (bn : Nat) (f : Bool), Rolls sz cn roll bn f segs → ∀ i (h : i < segs.length), segs[i].1 = endL cn bn (segs.take i) ∧ (segs[i].2 = [] → i = 0) ∧ (∀ a l, segs[i].2 = a ++ [l] → szs sz a < roll) ∧ (i + 1 < segs.length → roll ≤ szs sz segs[i].2)
  | [], _, _, h, _, _ => h.elim
  | [(n, bs)], bn, f, h, i, hi => by
    obtain ⟨h1, h2, h3⟩ := h
    have : i = 0 := by simpa using hi
    subst this
    exact ⟨h1, fun _ => rfl, h3, fun hh => by simp at hh⟩
  | (n, bs) :: t :: r, bn, f, h, i, hi => by
    obtain ⟨h1, h2, h3, h4, h5⟩ := h
    cases i with
    | zero => exact ⟨h1, fun _ => rfl, h3, fun _ => h4⟩
    | succ k =>
      have hk : k < (t :: r).length := by simpa using hi
      obtain ⟨g1, g2, g3, g4⟩ := rolls_get (t :: r) _ false h5 k hk
      refine ⟨?_, fun e => ?_, g3, fun hh => g4 (by simpa using hh)⟩
      · show (t :: r)[k].1 = endL cn (n + cns cn bs) ((t :: r).take k)
        rw [g1, h1]
      · have := g2 e
        subst this
        have hne : ∀ (x : Nat × List β) (rr : List (Nat × List β)) (b : Nat), Rolls sz cn roll b false (x :: rr) → x.2 ≠ [] := fun x rr b hx e => by
          obtain ⟨xn, xb⟩ := x
          cases rr with
          | nil =>
            obtain ⟨-, q, -⟩ := hx
            exact absurd (q e) (by simp)
          | cons y yy =>
            obtain ⟨-, q, -⟩ := hx
            exact absurd (q e) (by simp)
        exact absurd e (hne t r _ h5)
theorem endL_take {β : Type} {cn : β → Nat} : ∀ (segs : List (Nat × List β)) (bn i : Nat) (h : i < segs.length), (endL cn bn (segs.take (i + 1))) = segs[i].1 + cns cn segs[i].2
  | [], _, _, h => absurd h (Nat.not_lt_zero _)
  | (n, bs) :: r, bn, 0, _ => rfl
  | (n, bs) :: r, bn, i + 1, h => endL_take r (n + cns cn bs) i (by simpa using h)
/-- where the last batch stands -/
theorem last_pos {roll : Nat} (hr : 1 ≤ roll) {bs : List Bat} (h : ∀ a l, bs = a ++ [l] → szs bSize a < roll) : posT bs (bs.length - 1) < roll := by
  rcases List.eq_nil_or_concat bs with e | ⟨a, l, e⟩
  · subst e
    show (0 : Nat) < roll
    omega
  · rw [List.concat_eq_append] at e
    have h1 := h a l e
    rw [szs_bats] at h1
    subst e
    unfold posT
    rw [List.length_append, List.length_singleton, Nat.add_sub_cancel, List.take_left]
    exact h1
end Go.Proofs.YtlgcoaeddeiegaaGreat
/- segment: lists of records in memory, parts of records, a segment that an append left as it was. -/
namespace Go.Proofs.YtlgcoaeddeiegaaGreat
open Go Go.RowKit
attribute [local go_sem] Oper.semAt_some

/-- lists of records -/
structure ListsAt (w : World) (v : Value) (ll : List (List Rc)) : Prop where
  row : ∃ vs : List Value, vs.length = ll.length ∧ readAt w 1 v ll.length vs ∧ ∀ i (h : i < ll.length), ∃ oa c, vs[i]? = some (.slice oa ll[i].length c) ∧ RecsAt w (.slice oa ll[i].length c) ll[i] ∧ ll[i].length ≤ 9223372036854775807
theorem ListsAt.below {w w' : World} {v : Value} {ll : List (List Rc)} (h : ListsAt w v ll) (hb : Below w.heap.size w w') : ListsAt w' v ll := by
  obtain ⟨vs, h1, h2, h3⟩ := h.row
  refine ⟨vs, h1, h2.kept (fun k hk _ _ => hb.block k hk), fun i hi => ?_⟩
  obtain ⟨oa, c, g1, g2, g3⟩ := h3 i hi
  exact ⟨oa, c, g1, g2.below hb, g3⟩
theorem ListsAt.at {w : World} {oa : Option Addr} {n c i : Nat} {ll : List (List Rc)} (h : ListsAt w (.slice oa n c) ll) (hn : ll.length = n) (hi : i < ll.length) : ∃ g off ob d, oa = some ⟨g, off, none⟩ ∧ w.cell? ⟨g, off + i, none⟩ = some (.slice ob ll[i].length d) ∧ RecsAt w (.slice ob ll[i].length d) ll[i] ∧ ll[i].length ≤ 9223372036854775807 := by
  subst hn
  obtain ⟨vs, h1, h2, h3⟩ := h.row
  obtain ⟨ob, d, g1, g2, g3⟩ := h3 i hi
  obtain ⟨g, off, rfl⟩ := h2.addr (by omega)
  exact ⟨g, off, ob, d, rfl, rdCell h2 g1, g2, g3⟩
/-- a part of records -/
theorem recsCells_sub (xs : List RcV) (l m : Nat) : ((recsCells xs).drop (l * 3)).take (m * 3) = recsCells ((xs.drop l).take m) := by
  have h1 : ∀ (ys : List RcV) (m : Nat), (recsCells ys).take (m * 3) = recsCells (ys.take m) := fun ys => by
    induction ys with
    | nil => intro m; simp [recsCells]
    | cons a t ih =>
      intro m
      cases m with
      | zero => simp [recsCells]
      | succ m =>
        have e : recsCells (a :: t) = recCells a ++ recsCells t := rfl
        rw [e, List.take_succ_cons, show (m + 1) * 3 = 3 + m * 3 by omega, List.take_append, show recsCells (a :: t.take m) = recCells a ++ recsCells (t.take m) from rfl, ← ih m, List.take_of_length_le (show (recCells a).length ≤ 3 + m * 3 by show 3 ≤ _; omega), show 3 + m * 3 - (recCells a).length = m * 3 by show 3 + m * 3 - 3 = _; omega]
  have h2 : ∀ (ys : List RcV) (l : Nat), (recsCells ys).drop (l * 3) = recsCells (ys.drop l) := fun ys => by
    induction ys with
    | nil => intro l; simp [recsCells]
    | cons a t ih =>
      intro l
      cases l with
      | zero => simp
      | succ l =>
        have e : recsCells (a :: t) = recCells a ++ recsCells t := rfl
        rw [e, List.drop_succ_cons, show (l + 1) * 3 = 3 + l * 3 by omega, List.drop_append, ← ih l, List.drop_of_length_le (show (recCells a).length ≤ 3 + l * 3 by show 3 ≤ _; omega), show 3 + l * 3 - (recCells a).length = l * 3 by show 3 + l * 3 - 3 = _; omega, List.nil_append]
  rw [h2, h1]
theorem RecsIs.sub {w : World} {oa : Option Addr} {n c : Nat} {xs : List RcV} (h : RecsIs w (.slice oa n c) xs) (hn : xs.length = n) {l k : Nat} (hl : l ≤ k) (hk : k ≤ n) : RecsIs w (.slice (if c = l then oa else oa.map (·.add (l * 3))) (k - l) (c - l)) ((xs.drop l).take (k - l)) := by
  subst hn
  have h1 := h.row.sub l k c hl hk (Nat.le_trans hk h.row.cap) (Nat.le_refl _)
  rw [recsCells_sub] at h1
  have e : ((xs.drop l).take (k - l)).length = k - l := by rw [List.length_take, List.length_drop]; omega
  refine ⟨by rw [e]; exact h1, fun x hx => h.each x (List.mem_of_mem_drop (List.mem_of_mem_take hx))⟩
section
variable {w w' : World} {S S' : Nat → Prop} {s x q : Nat} {nm : ByteArray} {bn step : Nat} {sv : Value} {sp : List Sp} {bs : List Bat} {d d' : Dk}
/-- the disk has turned, the segment's file has not -/
theorem SegI.turn (h : SegI w S s x q nm bn step sv sp bs d) (hd : DiskAt w' S' q d') (hS : ∀ k, S' k → S k ∨ w.heap.size ≤ k) (ho : Only S w w') (hf : ∃ f, d'.find nm.data.toList = some f ∧ f.bytes = batsT bs) : SegI w' S' s x q nm bn step sv sp bs d' := by
  have hsl := (Array.getElem?_eq_some_iff.1 h.head).1
  have hxl := (Array.getElem?_eq_some_iff.1 h.idx.head).1
  have hvl := h.idx.row.lt
  have nS : ∀ k, k < w.heap.size → ¬ S k → ¬ S' k := fun k hk hn hw => by
    rcases hS k hw with hw | hw
    · exact hn hw
    · omega
  exact {
    head := (ho.block s hsl h.sS).trans h.head
    idx := ⟨(ho.block x hxl h.xS).trans h.idx.head, h.idx.row.kept (fun k hk => ho.block k (hvl k hk) (h.vS k hk))⟩
    spots := h.spots
    chain := h.chain
    disk := hd
    file := hf
    sS := nS s hsl h.sS
    xS := nS x hxl h.xS
    vS := fun k hk => nS k (hvl k hk) (h.vS k hk)
    sx := h.sx
    sv := h.sv
    stp := h.stp
    off := h.off
    nms := h.nms }
theorem append_full {d : Dk} {s b : List UInt8} (hf : d.fates = []) {f : F0} (h : d.find s = some f) (he : (d.append s b).1 ≠ 0) : (d.append s b).2 = d := by
  unfold Dk.append at he ⊢
  rw [h] at he ⊢
  split
  · rfl
  · rename_i h1
    rw [if_neg h1] at he
    dsimp only at he ⊢
    split
    · rfl
    · rename_i h2
      rw [if_neg h2] at he
      exact absurd (by unfold Dk.fate; rw [hf]) he
theorem append_fates {d : Dk} {s b : List UInt8} (hf : d.fates = []) : (d.append s b).2.fates = [] := by
  unfold Dk.append
  split
  · exact hf
  · split
    · exact hf
    · split
      · exact hf
      · show d.fates.tail = []
        rw [hf]
        rfl
theorem create_fates {d : Dk} {s : List UInt8} (hf : d.fates = []) : (d.create s).2.fates = [] := by
  unfold Dk.create
  split
  · exact hf
  · split
    · exact hf
    · split
      · exact hf
      · split
        · show d.fates.tail = []
          rw [hf]; rfl
        · show d.fates.tail = []
          rw [hf]; rfl
end
/-- a segment that was made behind w2 -/
structure SegJ (w2 w : World) (s x q : Nat) (nm : ByteArray) (bn step m : Nat) (bs : List Bat) : Prop where
  seg : ∃ S sv sp d, SegI w S s x q nm bn step sv sp bs d ∧ d.fates = [] ∧ (∀ k, S k → w2.heap.size ≤ k) ∧ ∀ k, sv.ownBlock = some k → w2.heap.size ≤ k
  hs : w2.heap.size ≤ s
  hx : w2.heap.size ≤ x
  below : Below w2.heap.size w2 w
  few : bs.length ≤ m
theorem SegJ.later {w2 w w' : World} {s x q : Nat} {nm : ByteArray} {bn step m : Nat} {bs : List Bat} (h : SegJ w2 w s x q nm bn step m bs) (hb : Below w.heap.size w w') : SegJ w2 w' s x q nm bn step m bs := by
  obtain ⟨S, sv, sp, d, h1, h2, h3, h4⟩ := h.seg
  exact ⟨⟨S, sv, sp, d, h1.later hb, h2, h3, h4⟩, h.hs, h.hx, h.below.trans (hb.mono h.below.size), h.few⟩
/-- what an Append leaves of it -/
theorem AppS.segJ {w2 w w' : World} {S : Nat → Prop} {s x q : Nat} {nm : ByteArray} {bn step m : Nat} {sv : Value} {sp : List Sp} {bs : List Bat} {d : Dk} {base : Int} {l : List Rc} {e : Ending} (h : AppS w S s x q nm bn step sv bs d base l e w')
    (hi : SegI w S s x q nm bn step sv sp bs d) (hf : d.fates = []) (hS : ∀ k, S k → w2.heap.size ≤ k) (hv : ∀ k, sv.ownBlock = some k → w2.heap.size ≤ k) (hs : w2.heap.size ≤ s) (hx : w2.heap.size ≤ x) (hb : Below w2.heap.size w2 w) (hm : bs.length ≤ m) :
    (∃ r, e = .returned r) ∧ ∃ bs', SegJ w2 w' s x q nm bn step (m + 1) bs' := by
  have hj : SegJ w2 w s x q nm bn step m bs := ⟨⟨S, sv, sp, d, hi, hf, hS, hv⟩, hs, hx, hb, hm⟩
  have up : ∀ {W : World} {bs' : List Bat}, SegJ w2 W s x q nm bn step m bs' → SegJ w2 W s x q nm bn step (m + 1) bs' := fun h => { h with few := by have := h.few; omega }
  have hsz := hb.size
  rcases h with ⟨-, he, hbl⟩ | ⟨-, -, he, hbl⟩ | ⟨-, -, hne, he, hd, ho⟩ | ⟨-, hbe, h0, he, S', sv', sp', hS', hsv', hi', ho⟩
  · exact ⟨⟨_, he⟩, bs, up (hj.later hbl)⟩
  · exact ⟨⟨_, he⟩, bs, up (hj.later hbl)⟩
  · obtain ⟨f, hff, hfb⟩ := hi.file
    have hdd := append_full hf hff hne
    rw [hdd] at hd
    have hw : ∀ k, Wid S w w' k → S k ∨ w.heap.size ≤ k := fun k hk => by
      rcases hk with hk | hk
      · exact .inl hk
      · exact .inr hk.1
    exact ⟨⟨_, he⟩, bs, up ⟨⟨Wid S w w', sv, sp, d, hi.turn hd hw ho ⟨f, hff, hfb⟩, hf, fun k hk => by
      rcases hk with hk | hk
      · exact hS k hk
      · have := hk.1; omega, hv⟩, hs, hx, hb.trans (ho.below (fun i hi h => by have := hS i h; omega) hb.size), hm⟩⟩
  · refine ⟨⟨_, he⟩, _, ⟨S', sv', sp', _, hi', append_fates hf, fun k hk => ?_, fun k hk => ?_⟩, hs, hx, hb.trans (ho.below (fun i hi h => ?_) hb.size), by rw [List.length_append]; simp; omega⟩
    · rcases hS' k hk with hk | hk
      · exact hS k hk
      · have := hk.1; omega
    · rcases hsv' k hk with hk | hk
      · exact hv k hk
      · omega
    · rcases h with h | h | h | h
      · have := hS i h; omega
      · omega
      · omega
      · have := hv i h; omega
end Go.Proofs.YtlgcoaeddeiegaaGreat
/- segment: what a crash leaves of batches' bytes; a disk of one file (plain). -/
namespace Go.Proofs.YtlgcoaeddeiegaaGreat
open Go Go.RowKit

theorem batch_torn {base : Int} {l : List Rc} {m : Nat} (hg : GoodB base l) (h0 : 0 < m) (hm : m < (batchT base l).length) : TornL ((batchT base l).take m) := by
  have hlen : ((batchT base l).take m).length = m := by rw [List.length_take]; omega
  refine ⟨fun e => by rw [e] at hlen; simp at hlen; omega, ?_⟩
  by_cases h4 : m < 4
  · exact .inl (by omega)
  · refine .inr ⟨by omega, ?_⟩
    have hp := hg.pos.2
    have hs := hg.size
    have e4 : ((batchT base l).take m).take 4 = leT (rcsSize l - 4) 4 := by
      rw [List.take_take, Nat.min_eq_left (by omega)]
      unfold batchT
      rw [List.append_assoc, List.take_append_of_le_length (by rw [leT_len]; exact Nat.le_refl _), List.take_of_length_le (by rw [leT_len]; exact Nat.le_refl _)]
    rw [e4, getT_leT 4 (rcsSize l - 4) (by omega), hlen]
    rw [batchT_len] at hm
    omega
theorem posT_cons (b : Bat) (r : List Bat) (j : Nat) : posT (b :: r) (j + 1) = (batchT b.1 b.2).length + posT r j := by
  unfold posT
  rw [List.take_succ_cons, show batsT (b :: r.take j) = batchT b.1 b.2 ++ batsT (r.take j) from rfl, List.length_append]
/-- a beginning of batches' bytes is some batches and nothing, or a torn one -/
theorem torn_split : ∀ (bs : List Bat) (m : Nat), (∀ b ∈ bs, GoodB b.1 b.2) → m ≤ (batsT bs).length →
    ∃ k t, k ≤ bs.length ∧ (batsT bs).take m = batsT (bs.take k) ++ t ∧ (t = [] ∨ TornL t) ∧ ∀ j, j ≤ bs.length → posT bs j ≤ m → j ≤ k
  | [], m, _, _ => ⟨0, [], Nat.le_refl _, by simp [batsT], .inl rfl, fun j hj _ => hj⟩
  | b :: r, m, hg, hm => by
    have hgb := hg b (List.mem_cons_self ..)
    have e : batsT (b :: r) = batchT b.1 b.2 ++ batsT r := rfl
    rw [e, List.length_append] at hm
    by_cases hb : (batchT b.1 b.2).length ≤ m
    · obtain ⟨k, t, h1, h2, h3, h4⟩ := torn_split r (m - (batchT b.1 b.2).length) (fun c hc => hg c (List.mem_cons_of_mem _ hc)) (by omega)
      refine ⟨k + 1, t, by simp; omega, ?_, h3, fun j hj hp => ?_⟩
      · rw [e, List.take_append, List.take_of_length_le hb, h2, List.take_succ_cons, show batsT (b :: r.take k) = batchT b.1 b.2 ++ batsT (r.take k) from rfl, List.append_assoc]
      · cases j with
        | zero => omega
        | succ j =>
          rw [posT_cons] at hp
          have := h4 j (by simpa using hj) (by omega)
          omega
    · refine ⟨0, (batchT b.1 b.2).take m, Nat.zero_le _, ?_, ?_, fun j hj hp => ?_⟩
      · rw [e, List.take_append_of_le_length (by omega)]
        simp [batsT]
      · by_cases h0 : m = 0
        · exact .inl (by rw [h0]; rfl)
        · exact .inr (batch_torn hgb (by omega) (by omega))
      · cases j with
        | zero => exact Nat.le_refl _
        | succ j =>
          rw [posT_cons] at hp
          omega
/-- a disk of one file, there and named -/
structure OneF (d : Dk) (s : List UInt8) (f : F0) : Prop where
  files : d.files = [f]
  fates : d.fates = []
  name : f.name = s
  there : f.there = true
  named : f.named = true
  ok : nameOk s = true
section
variable {d : Dk} {s : List UInt8} {f : F0}
theorem OneF.find (h : OneF d s f) : d.find s = some f := by
  unfold Dk.find Dk.at
  rw [h.files, List.find?_cons, show (f.name == s) = true by rw [h.name]; exact beq_self_eq_true s]
  show Option.filter _ (some f) = _
  rw [Option.filter_some, if_pos h.there]
theorem OneF.fate (h : OneF d s f) : d.fate = (0, 0) := by unfold Dk.fate; rw [h.fates]
theorem OneF.turn (h : OneF d s f) (t : F0 → F0) (hn : (t f).name = f.name) (ht : (t f).there = true) (hm : (t f).named = true) : OneF (d.next.turn s t) s (t f) :=
  ⟨by unfold Dk.turn Dk.next; dsimp only; rw [h.files, List.map_cons, List.map_nil, if_pos h.name], by unfold Dk.turn Dk.next; dsimp only; rw [h.fates]; rfl, hn.trans h.name, ht, hm, h.ok⟩
theorem OneF.append (h : OneF d s f) {b : List UInt8} (h0 : (d.append s b).1 = 0) : OneF (d.append s b).2 s { f with bytes := f.bytes ++ b } := by
  unfold Dk.append at h0 ⊢
  rw [if_neg (by rw [h.ok]; simp), h.find] at h0 ⊢
  dsimp only at h0 ⊢
  split at h0
  · cases h0
  · rename_i h2
    rw [if_neg h2, h.fate]
    exact h.turn _ rfl h.there h.named
theorem OneF.sync (h : OneF d s f) : (d.sync s).1 = 0 ∧ OneF (d.sync s).2 s { f with lasts := f.bytes.length } := by
  unfold Dk.sync
  rw [if_neg (by rw [h.ok]; simp), h.find]
  dsimp only
  rw [h.fate]
  exact ⟨rfl, h.turn _ rfl h.there h.named⟩
theorem OneF.cut (h : OneF d s f) {n : Nat} (hn : n ≤ f.bytes.length) : (d.cut s (n : Int)).1 = 0 ∧ OneF (d.cut s (n : Int)).2 s { f with bytes := f.bytes.take n, lasts := min f.lasts n } := by
  unfold Dk.cut
  rw [if_neg (by rw [h.ok]; simp), h.find]
  dsimp only
  rw [if_neg (by omega), h.fate, if_neg (by simp)]
  exact ⟨rfl, h.turn _ rfl h.there h.named⟩
theorem OneF.crash (h : OneF d s f) (hl : f.lasts ≤ f.bytes.length) (ps : List Int) : ∃ k, f.lasts + k ≤ f.bytes.length ∧ OneF (d.crash ps) s (cutF f k) := by
  refine ⟨(moreP f (keepP f ps).2).1, moreP_le f _ hl, ?_, rfl, h.name, rfl, rfl, h.ok⟩
  unfold Dk.crash crashTo
  dsimp only
  rw [h.files]
  show (crashStep ([], ps) f).1 = _
  unfold crashStep
  rw [if_neg (by unfold keepP; rw [h.there, h.named]; simp)]
  rfl
end
theorem create_one {s : List UInt8} (h : (Dk.new.create s).1 = 0) : (Dk.new.create s).2.files = [⟨s, [], 0, true, false⟩] ∧ (Dk.new.create s).2.fates = [] ∧ nameOk s = true := by
  unfold Dk.create at h ⊢
  split at h
  · cases h
  · rename_i h1
    have hok : nameOk s = true := by simpa using h1
    rw [if_neg h1]
    split at h
    · cases h
    · rename_i h2
      rw [if_neg h2]
      split at h
      · cases h
      · rename_i h3
        rw [if_neg h3]
        split at h
        · rename_i h4
          exact absurd h h4
        · rename_i h4
          rw [if_neg h4]
          exact ⟨rfl, rfl, hok⟩
theorem syncdir_one {d : Dk} {s : List UInt8} (h1 : d.files = [⟨s, [], 0, true, false⟩]) (h2 : d.fates = []) (h3 : nameOk s = true) : d.syncdir.1 = 0 ∧ OneF d.syncdir.2 s ⟨s, [], 0, true, true⟩ := by
  have hf : d.fate = (0, 0) := by unfold Dk.fate; rw [h2]
  unfold Dk.syncdir
  rw [hf, if_neg (by simp)]
  refine ⟨rfl, ?_, ?_, rfl, rfl, rfl, h3⟩
  · dsimp only
    rw [h1]
    rfl
  · show d.fates.tail = []
    rw [h2]
    rfl
end Go.Proofs.YtlgcoaeddeiegaaGreat
