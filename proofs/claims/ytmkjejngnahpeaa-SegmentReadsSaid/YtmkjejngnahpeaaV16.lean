/- The texts Mo, Mp, Ea, Eb in one. -/
import Derived.Test.YtmkjejngnahpeaaV5
import Derived.Test.YtmkjejngnahpeaaV7
import Derived.Shelf.SlIter.Nil
import Derived.Shelf.SortM.Plain
import Derived.Shelf.SortM.SortNone
/- record: Same, SameAll; the document's Large. -/
namespace Go.Proofs.Ytmkjejngnahpeaa
open Go Go.RowKit
attribute [local go_sem] Oper.semAt_some

theorem run_string_rdR {P : Program} (w : World) (src dst e : TypeId) (oa : Option Addr) (n c : Nat) (l : List UInt8) (hl : l.length = n) (hs : P.underlying src = some (.slice e)) (he : P.underlying e = some (.int .u8)) (hd : P.underlying dst = some .string)
    (h : readAt w 1 (.slice oa n c) n (byteCells l)) : (convert src dst (.slice oa n c)).run P w = .ok (.string ⟨l.toArray⟩) w := by
  subst hl
  rcases h.2 with ⟨h0, oa', c', hv, hn⟩ | ⟨g, off, c', hv, h0, hg, hc, hj⟩
  · simp only [Value.slice.injEq] at hv
    obtain ⟨rfl, -, rfl⟩ := hv
    have hl : l = [] := List.eq_nil_of_length_eq_zero h0
    subst hl
    cases oa with
    | none => 
      obtain rfl := hn rfl
      exact run_string_row w 0 src dst e _ [] hs he hd ⟨rfl, .inl ⟨rfl, rfl⟩⟩
    | some a => exact run_convert_bytes_back w src dst e a c [] hs he hd fun j hj => by cases hj
  · simp only [Value.slice.injEq] at hv
    obtain ⟨rfl, -, rfl⟩ := hv
    refine run_convert_bytes_back w src dst e ⟨g, off, none⟩ c l hs he hd fun j hj' => ?_
    rw [Go.WideShapes.add_plain]
    exact hj j _ (by simp [byteCells, hj'])
set_option maxHeartbeats 400000 in
theorem bytesEqR_b {w : World} {oa ob : Option Addr} {n c m d : Nat} {a b : List UInt8} (hn : a.length = n) (hm : b.length = m) (ha : readAt w 1 (.slice oa n c) n (byteCells a)) (hb : readAt w 1 (.slice ob m d) m (byteCells b)) :
    Calls Try.prog 124 #[.slice oa n c, .slice ob m d] w fun e w' => e = .returned (.bool (decide (a = b))) ∧ w' = w := by
  have h1 := run_string_rdR (P := Try.prog) w 79 9 5 oa n c a hn Try.underlying79 Try.underlying5 Try.underlying9 ha
  have h2 := run_string_rdR (P := Try.prog) w 79 9 5 ob m d b hm Try.underlying79 Try.underlying5 Try.underlying9 hb
  have he : (a == b) = decide (a = b) := by by_cases h : a = b <;> simp [h]
  have HE := Lib.hid he
  clear ha hb he
  go_enter Try.func124, Try.ntmps124
  go_wp2_with fail
  go_ret
  refine ⟨?_, rfl⟩
  rw [← HE.out]
  rfl
set_option maxRecDepth 100000 in
set_option maxHeartbeats 1000000 in
/-- two records are the same, where they are -/
theorem recSame_b {w : World} {t1 t2 : Int} {oa ob oc od : Option Addr} {n c m d n2 c2 m2 d2 : Nat} {k1 v1 k2 v2 : List UInt8} (e1 : k1.length = n) (e2 : v1.length = m) (e3 : k2.length = n2) (e4 : v2.length = m2)
    (h1 : readAt w 1 (.slice oa n c) n (byteCells k1)) (h2 : readAt w 1 (.slice ob m d) m (byteCells v1)) (h3 : readAt w 1 (.slice oc n2 c2) n2 (byteCells k2)) (h4 : readAt w 1 (.slice od m2 d2) m2 (byteCells v2)) :
    Calls Try.prog 99 #[.agg #[.int .i64 t1, .slice oa n c, .slice ob m d], .agg #[.int .i64 t2, .slice oc n2 c2, .slice od m2 d2]] w fun e w' => e = .returned (.bool (decide (t1 = t2) && decide (k1 = k2) && decide (v1 = v2))) ∧ Below w.heap.size w w' := by
  obtain ⟨w1, hw1⟩ : ∃ W : World, W = (w.alloc (.cells #[.int .i64 t1, .slice oa n c, .slice ob m d] 154)).alloc (.cells #[.int .i64 t2, .slice oc n2 c2, .slice od m2 d2] 154) := ⟨_, rfl⟩
  obtain ⟨b2, hb2⟩ : ∃ b, b = w.heap.size := ⟨_, rfl⟩
  obtain ⟨b3, hb3⟩ : ∃ b, b = w.heap.size + 1 := ⟨_, rfl⟩
  have g2 : w1.heap[b2]? = some (.cells #[.int .i64 t1, .slice oa n c, .slice ob m d] 154 (0, 0)) := by rw [hw1, hb2]; exact (Below.heap_alloc _ _ _ (by simp)).trans (alloc_cells _ _ _)
  have g3 : w1.heap[b3]? = some (.cells #[.int .i64 t2, .slice oc n2 c2, .slice od m2 d2] 154 (0, 0)) := by
    rw [hw1, hb3]
    have := alloc_cells (w.alloc (.cells #[.int .i64 t1, .slice oa n c, .slice ob m d] 154)) #[.int .i64 t2, .slice oc n2 c2, .slice od m2 d2] 154
    rwa [World.size_alloc] at this
  have hbl : Below w.heap.size w w1 := by rw [hw1]; exact ((Below.refl _ _).alloc (Nat.le_refl _) _).alloc (by simp) _
  have q0 : w1.cell? ⟨b2, 0, none⟩ = some (.int .i64 t1) := cell_of g2 rfl
  have q1 : w1.cell? ⟨b2, 1, none⟩ = some (.slice oa n c) := cell_of g2 rfl
  have q2 : w1.cell? ⟨b2, 2, none⟩ = some (.slice ob m d) := cell_of g2 rfl
  have r0 : w1.cell? ⟨b3, 0, none⟩ = some (.int .i64 t2) := cell_of g3 rfl
  have r1 : w1.cell? ⟨b3, 1, none⟩ = some (.slice oc n2 c2) := cell_of g3 rfl
  have r2 : w1.cell? ⟨b3, 2, none⟩ = some (.slice od m2 d2) := cell_of g3 rfl
  have HK := Lib.hid (bytesEqR_b e1 e3 (h1.kept (fun k hk _ _ => hbl.block k hk)) (h3.kept (fun k hk _ _ => hbl.block k hk)))
  have HV := Lib.hid (bytesEqR_b e2 e4 (h2.kept (fun k hk _ _ => hbl.block k hk)) (h4.kept (fun k hk _ _ => hbl.block k hk)))
  have HB := Lib.hid hbl
  clear e1 e2 e3 e4 h1 h2 h3 h4 g2 g3 hbl
  by_cases ht : t1 = t2
  · have dt : (t1 == t2) = true := by rw [beq_iff_eq]; exact ht
    have HT : Hid (decide (t1 = t2) = true) := Lib.hid (decide_eq_true ht)
    clear ht
    by_cases hk : k1 = k2
    · have hk' : decide (k1 = k2) = true := decide_eq_true hk
      rw [hk'] at HK ⊢
      rw [HT.out]
      clear hk hk'
      go_enter Try.func99, Try.ntmps99
      go_upto_region 1 with fail
      rw [← hw1, ← hb3, ← hb2]
      clear hw1 hb3 hb2
      go_wp2_with fail
      refine HK.out.mono ?_
      rintro e w2 ⟨rfl, hw2⟩
      obtain rfl := hw2.symm
      clear hw2
      go_wp2_with fail
      refine HV.out.mono ?_
      rintro e w2 ⟨rfl, hw2⟩
      obtain rfl := hw2.symm
      clear hw2
      go_wp2_with fail
      go_ret
      exact ⟨by simp, HB.out⟩
    · have hk' : decide (k1 = k2) = false := decide_eq_false hk
      rw [hk'] at HK ⊢
      rw [HT.out]
      clear hk hk'
      go_enter Try.func99, Try.ntmps99
      go_upto_region 1 with fail
      rw [← hw1, ← hb3, ← hb2]
      clear hw1 hb3 hb2
      go_wp2_with fail
      refine HK.out.mono ?_
      rintro e w2 ⟨rfl, hw2⟩
      obtain rfl := hw2.symm
      clear hw2
      go_wp2_with fail
      go_ret
      exact ⟨by simp, HB.out⟩
  · have dt : (t1 == t2) = false := by rw [beq_eq_false_iff_ne]; exact ht
    have HT : Hid (decide (t1 = t2) = false) := Lib.hid (decide_eq_false ht)
    clear ht
    rw [HT.out]
    go_enter Try.func99, Try.ntmps99
    go_upto_region 1 with fail
    rw [← hw1, ← hb3, ← hb2]
    clear hw1 hb3 hb2
    go_wp2_with fail
    go_ret
    exact ⟨by simp, HB.out⟩
theorem rc_eq (a b : Rc) : (decide (a.time = b.time) && decide (a.key = b.key) && decide (a.val = b.val)) = decide (a = b) := by
  obtain ⟨t, k, v⟩ := a
  obtain ⟨t', k', v'⟩ := b
  by_cases h1 : t = t' <;> by_cases h2 : k = k' <;> by_cases h3 : v = v' <;> simp [h1, h2, h3]
end Go.Proofs.Ytmkjejngnahpeaa
/- record: SameAll; the document's Large. -/
namespace Go.Proofs.Ytmkjejngnahpeaa
open Go Go.RowKit
attribute [local go_sem] Oper.semAt_some

set_option maxRecDepth 100000 in
set_option maxHeartbeats 2000000 in
theorem equalFunc_b {w : World} {oa ob : Option Addr} {n c m d : Nat} {xs ys : List RcV} {l k : List Rc} (hl : xs.map (·.r) = l) (hk : ys.map (·.r) = k) (hn : xs.length = n) (hm : ys.length = m) (h1 : RecsIs w (.slice oa n c) xs) (h2 : RecsIs w (.slice ob m d) ys) (hnm : n ≤ 1000000000) :
    Calls Try.prog 98 #[.slice oa n c, .slice ob m d, .func (.func 99) #[] #[]] w fun e w' => e = .returned (.bool (decide (l = k))) ∧ Below w.heap.size w w' := by
  have HL := Lib.hid (And.intro hl (And.intro hk (And.intro hn hm)))
  have HLL : Hid (l.length = n ∧ k.length = m) := Lib.hid ⟨by rw [← hl, List.length_map, hn], by rw [← hk, List.length_map, hm]⟩
  have H := Lib.hid (And.intro h1 h2)
  clear hl hk hn hm h1 h2
  by_cases hnm2 : n = m
  case neg =>
    have hd : ((n : Int) == (m : Int)) = false := by rw [beq_eq_false_iff_ne]; omega
    have hne : decide (l = k) = false := decide_eq_false (fun e => by
      have h3 := HLL.out
      rw [e] at h3
      omega)
    have HD := Lib.hid hne
    clear hne
    go_enter Try.func98, Try.ntmps98
    go_wp2_with fail
    go_ret
    exact ⟨by rw [HD.out]; rfl, Below.refl _ _⟩
  case pos =>
    subst hnm2
    go_enter Try.func98, Try.ntmps98
    go_wp2_with fail
    go_loopw [17] (fun i wr => ∃ j : Nat, i = .int .i64 (j : Int) ∧ j ≤ n ∧ Hid (l.take j = k.take j ∧ Below w.heap.size w wr)) (fun i _ => n - (intOf i).toNat)
    case atStart => exact ⟨0, rfl, by omega, Lib.hid ⟨by simp, Below.refl _ _⟩⟩
    case round =>
      obtain ⟨j, rfl, hj, HI⟩ := hrel
      by_cases hlt : j < n
      · have hjx : j < xs.length := by rw [HL.out.2.2.1]; exact hlt
        have hjy : j < ys.length := by rw [HL.out.2.2.2]; exact hlt
        have hjl : j < l.length := by rw [HLL.out.1]; exact hlt
        have hjk : j < k.length := by rw [HLL.out.2]; exact hlt
        have g1 := H.out.1.below HI.out.2
        have g2 := H.out.2.below HI.out.2
        have e1 := g1.each xs[j] (List.getElem_mem hjx)
        have e2 := g2.each ys[j] (List.getElem_mem hjy)
        obtain ⟨ga, fa, ka, kc, va, vc, rfl, hkv, hvv, c0, c1, c2⟩ := g1.cells HL.out.2.2.1 hjx
        obtain ⟨gb, fb, kb, kd, vb, vd, rfl, hkw, hvw, d0, d1, d2⟩ := g2.cells HL.out.2.2.2 hjy
        have hx : xs[j].r = l[j] := by simp [← HL.out.1]
        have hy : ys[j].r = k[j] := by simp [← HL.out.2.1]
        rw [hkv, hvv] at e1
        rw [hkw, hvw] at e2
        have e11 : readAt wr 1 (.slice ka xs[j].r.key.length kc) xs[j].r.key.length (byteCells xs[j].r.key) := e1.1
        have e12 : readAt wr 1 (.slice va xs[j].r.val.length vc) xs[j].r.val.length (byteCells xs[j].r.val) := e1.2
        have e21 : readAt wr 1 (.slice kb ys[j].r.key.length kd) ys[j].r.key.length (byteCells ys[j].r.key) := e2.1
        have e22 : readAt wr 1 (.slice vb ys[j].r.val.length vd) ys[j].r.val.length (byteCells ys[j].r.val) := e2.2
        rw [hx] at c0 c1 c2 e11 e12
        rw [hy] at d0 d1 d2 e21 e22
        have HT : Hid (l.take (j + 1) = l.take j ++ [l[j]] ∧ k.take (j + 1) = k.take j ++ [k[j]] ∧ l[j]? = some l[j] ∧ k[j]? = some k[j]) := Lib.hid ⟨List.take_succ_eq_append_getElem hjl, List.take_succ_eq_append_getElem hjk, List.getElem?_eq_getElem hjl, List.getElem?_eq_getElem hjk⟩
        obtain ⟨r, hr⟩ : ∃ r, l[j] = r := ⟨_, rfl⟩
        obtain ⟨s, hs⟩ : ∃ s, k[j] = s := ⟨_, rfl⟩
        rw [hr] at c0 c1 c2 e11 e12 HT
        rw [hs] at d0 d1 d2 e21 e22 HT
        obtain ⟨rt, hrt⟩ : ∃ x, r.time = x := ⟨_, rfl⟩
        obtain ⟨rk, hrk⟩ : ∃ x, r.key.length = x := ⟨_, rfl⟩
        obtain ⟨rv, hrv⟩ : ∃ x, r.val.length = x := ⟨_, rfl⟩
        obtain ⟨st, hst⟩ : ∃ x, s.time = x := ⟨_, rfl⟩
        obtain ⟨sk, hsk⟩ : ∃ x, s.key.length = x := ⟨_, rfl⟩
        obtain ⟨sv, hsv⟩ : ∃ x, s.val.length = x := ⟨_, rfl⟩
        rw [hrt] at c0
        rw [hrk] at c1 e11
        rw [hrv] at c2 e12
        rw [hst] at d0
        rw [hsk] at d1 e21
        rw [hsv] at d2 e22
        have hgb : gb < wr.heap.size := World.block_lt_of_cell? _ _ d0
        have hbA : Below wr.heap.size wr (wr.alloc (.cells #[.int .i64 rt, .slice ka rk kc, .slice va rv vc] 154)) := (Below.refl _ _).alloc (Nat.le_refl _) _
        have d0a := (hbA.cell (p := ⟨gb, fb + j * 3, none⟩) hgb).trans d0
        have d1a := (hbA.cell (p := ⟨gb, fb + j * 3 + 1, none⟩) hgb).trans d1
        have d2a := (hbA.cell (p := ⟨gb, fb + j * 3 + 2, none⟩) hgb).trans d2
        clear hgb hbA
        obtain ⟨w1, hw1⟩ : ∃ W : World, W = (wr.alloc (.cells #[.int .i64 rt, .slice ka rk kc, .slice va rv vc] 154)).alloc (.cells #[.int .i64 st, .slice kb sk kd, .slice vb sv vd] 154) := ⟨_, rfl⟩
        obtain ⟨b8, hb8⟩ : ∃ b, b = wr.heap.size := ⟨_, rfl⟩
        obtain ⟨b9, hb9⟩ : ∃ b, b = wr.heap.size + 1 := ⟨_, rfl⟩
        have q8 : w1.heap[b8]? = some (.cells #[.int .i64 rt, .slice ka rk kc, .slice va rv vc] 154 (0, 0)) := by rw [hw1, hb8]; exact (Below.heap_alloc _ _ _ (by simp)).trans (alloc_cells _ _ _)
        have q9 : w1.heap[b9]? = some (.cells #[.int .i64 st, .slice kb sk kd, .slice vb sv vd] 154 (0, 0)) := by
          rw [hw1, hb9]
          have := alloc_cells (wr.alloc (.cells #[.int .i64 rt, .slice ka rk kc, .slice va rv vc] 154)) #[.int .i64 st, .slice kb sk kd, .slice vb sv vd] 154
          rwa [World.size_alloc] at this
        have hbl : Below wr.heap.size wr w1 := by rw [hw1]; exact ((Below.refl _ _).alloc (Nat.le_refl _) _).alloc (by simp) _
        have hsm := recSame_b (w := w1) (t1 := rt) (t2 := st) hrk hrv hsk hsv (e11.kept (fun i hi _ _ => hbl.block i hi)) (e12.kept (fun i hi _ _ => hbl.block i hi)) (e21.kept (fun i hi _ _ => hbl.block i hi)) (e22.kept (fun i hi _ _ => hbl.block i hi))
        obtain ⟨q, hq⟩ : ∃ q, (decide (rt = st) && decide (r.key = s.key) && decide (r.val = s.val)) = q := ⟨_, rfl⟩
        rw [hq] at hsm
        have HQ : Hid (decide (r = s) = q) := Lib.hid (by rw [← rc_eq, hrt, hst]; exact hq)
        have HSM := Lib.hid hsm
        have HB := Lib.hid hbl
        have y0 : w1.cell? ⟨b8, 0, none⟩ = some (.int .i64 rt) := cell_of q8 rfl
        have y1 : w1.cell? ⟨b8, 1, none⟩ = some (.slice ka rk kc) := cell_of q8 rfl
        have y2 : w1.cell? ⟨b8, 2, none⟩ = some (.slice va rv vc) := cell_of q8 rfl
        have z0 : w1.cell? ⟨b9, 0, none⟩ = some (.int .i64 st) := cell_of q9 rfl
        have z1 : w1.cell? ⟨b9, 1, none⟩ = some (.slice kb sk kd) := cell_of q9 rfl
        have z2 : w1.cell? ⟨b9, 2, none⟩ = some (.slice vb sv vd) := cell_of q9 rfl
        clear hjx hjy hjl hjk g1 g2 e1 e2 hkv hvv hkw hvw hx hy e11 e12 e21 e22 hr hs hrt hrk hrv hst hsk hsv q8 q9 hbl hsm hq
        go_upto_region 7 with fail
        rw [← hw1, ← hb9, ← hb8]
        clear hw1 hb9 hb8 d0a d1a d2a c0 c1 c2 d0 d1 d2
        go_wp2_with fail
        refine HSM.out.mono ?_
        rintro e w2 ⟨rfl, hb2⟩
        have HB2 := Lib.hid (HI.out.2.trans ((HB.out.trans (hb2.mono HB.out.size)).mono HI.out.2.size))
        clear hb2 HSM
        cases q with
        | false =>
          have hne : decide (l = k) = false := decide_eq_false (fun e => by
            have h1 := HT.out.2.2.1
            rw [e, HT.out.2.2.2] at h1
            simp only [Option.some.injEq] at h1
            have h2 := HQ.out
            rw [h1, decide_eq_true rfl] at h2
            cases h2)
          have HD := Lib.hid hne
          clear hne
          go_wp2_with fail
          go_ret
          exact ⟨by rw [HD.out]; rfl, HB2.out⟩
        | true =>
          go_wp2_with fail
          refine ⟨⟨j + 1, by simp, by omega, Lib.hid ⟨?_, HB2.out⟩⟩, by simp [intOf]; omega⟩
          rw [HT.out.1, HT.out.2.1, HI.out.1, of_decide_eq_true HQ.out]
      · obtain rfl : j = n := by omega
        have heq : decide (l = k) = true := decide_eq_true (by
          have h1 := HI.out.1
          rwa [List.take_of_length_le (by rw [HLL.out.1]; exact Nat.le_refl _), List.take_of_length_le (by rw [HLL.out.2]; exact Nat.le_refl _)] at h1)
        have HD := Lib.hid heq
        have HB := Lib.hid HI.out.2
        clear heq HI hlt
        go_wp2_with fail
        go_ret
        exact ⟨by rw [HD.out]; rfl, HB.out⟩
set_option maxHeartbeats 400000 in
theorem sameAll_b {w : World} {oa ob : Option Addr} {n c m d : Nat} {xs ys : List RcV} {l k : List Rc} (hl : xs.map (·.r) = l) (hk : ys.map (·.r) = k) (hn : xs.length = n) (hm : ys.length = m) (h1 : RecsIs w (.slice oa n c) xs) (h2 : RecsIs w (.slice ob m d) ys) (hnm : n ≤ 1000000000) :
    Calls Try.prog 31 #[.slice oa n c, .slice ob m d] w fun e w' => e = .returned (.bool (decide (l = k))) ∧ Below w.heap.size w w' := by
  have H := Lib.hid (equalFunc_b hl hk hn hm h1 h2 hnm)
  clear hl hk hn hm h1 h2
  go_enter Try.func31, Try.ntmps31
  go_wp2_with fail
  refine H.out.mono ?_
  rintro e w2 ⟨rfl, hb⟩
  have HB := Lib.hid hb
  clear hb H
  go_wp2_with fail
  go_ret
  exact ⟨rfl, HB.out⟩
/-- more than is done by a statement -/
def Rc.large (r : Rc) : Bool := decide (9000 < r.key.length) || decide (9000 < r.val.length)
def largeT (n : Nat) (l : List Rc) : Bool := decide (n < l.length) || l.any Rc.large
set_option maxRecDepth 100000 in
set_option maxHeartbeats 1000000 in
theorem large_b {w : World} {oa : Option Addr} {n c : Nat} {xs : List RcV} {l : List Rc} {most : Nat} (hl : xs.map (·.r) = l) (hn : xs.length = n) (h1 : RecsIs w (.slice oa n c) xs) (hm : most ≤ 1000000) (hnm : n ≤ maxLen) :
    Calls Try.prog 22 #[.int .i64 (most : Int), .slice oa n c] w fun e w' => e = .returned (.bool (largeT most l)) ∧ w' = w := by
  have hln : l.length = n := by rw [← hl, List.length_map, hn]
  have HL := Lib.hid (And.intro hl (And.intro hn hln))
  have H := Lib.hid h1
  unfold maxLen at hnm
  clear hl hn h1 hln
  by_cases hbig : most < n
  · have hd : decide ((most : Int) < (n : Int)) = true := decide_eq_true (by omega)
    have hd2 : decide (most < n) = true := decide_eq_true hbig
    have HT : Hid (largeT most l = true) := Lib.hid (by unfold largeT; rw [HL.out.2.2, hd2]; rfl)
    go_enter Try.func22, Try.ntmps22
    go_wp2_with fail
    go_ret
    exact ⟨by rw [HT.out]; rfl, rfl⟩
  · have hd : decide ((most : Int) < (n : Int)) = false := decide_eq_false (by omega)
    have hd2 : decide (most < n) = false := decide_eq_false hbig
    have HT : Hid (largeT most l = l.any Rc.large) := Lib.hid (by unfold largeT; rw [HL.out.2.2, hd2]; rfl)
    go_enter Try.func22, Try.ntmps22
    go_wp2_with fail
    go_loopw [5] (fun i wr => ∃ j : Nat, i = .int .i64 (j : Int) ∧ j ≤ n ∧ wr = w ∧ Hid ((l.take j).any Rc.large = false)) (fun i _ => n - (intOf i).toNat)
    case atStart => exact ⟨0, rfl, by omega, rfl, Lib.hid (by simp)⟩
    case round =>
      obtain ⟨j, rfl, hj, rfl, HI⟩ := hrel
      by_cases hlt : j < n
      · have hjx : j < xs.length := by rw [HL.out.2.1]; exact hlt
        have hjl : j < l.length := by rw [HL.out.2.2]; exact hlt
        obtain ⟨ga, fa, ka, kc, va, vc, rfl, -, -, c0, c1, c2⟩ := H.out.cells HL.out.2.1 hjx
        have hx : xs[j].r = l[j] := by simp [← HL.out.1]
        rw [hx] at c1 c2
        have HTK : Hid (l.take (j + 1) = l.take j ++ [l[j]] ∧ l[j] ∈ l) := Lib.hid ⟨List.take_succ_eq_append_getElem hjl, List.getElem_mem hjl⟩
        obtain ⟨r, hr⟩ : ∃ r, l[j] = r := ⟨_, rfl⟩
        rw [hr] at c1 c2 HTK
        obtain ⟨rk, hrk⟩ : ∃ x, r.key.length = x := ⟨_, rfl⟩
        obtain ⟨rv, hrv⟩ : ∃ x, r.val.length = x := ⟨_, rfl⟩
        rw [hrk] at c1
        rw [hrv] at c2
        have HR : Hid (r.large = (decide (9000 < rk) || decide (9000 < rv))) := Lib.hid (by unfold Rc.large; rw [hrk, hrv])
        clear hjx hjl hx hr hrk hrv c0
        by_cases h9 : 9000 < rk ∨ 9000 < rv
        · have HTT : Hid (largeT most l = true) := Lib.hid (by
            rw [HT.out]
            refine List.any_eq_true.2 ⟨r, HTK.out.2, ?_⟩
            rw [HR.out]
            rcases h9 with h | h
            · rw [decide_eq_true h]; rfl
            · rw [decide_eq_true h]; simp)
          by_cases hk9 : 9000 < rk
          · have e1 : decide ((9000 : Int) < (rk : Int)) = true := decide_eq_true (by omega)
            have e1' : decide (9000 < rk) = true := decide_eq_true hk9
            go_wp2_with fail
            go_ret
            exact ⟨by rw [HTT.out]; rfl, rfl⟩
          · have e1 : decide ((9000 : Int) < (rk : Int)) = false := decide_eq_false (by omega)
            have e1' : decide (9000 < rk) = false := decide_eq_false hk9
            have e2 : decide ((9000 : Int) < (rv : Int)) = true := decide_eq_true (by omega)
            have e2' : decide (9000 < rv) = true := decide_eq_true (by omega)
            go_wp2_with fail
            go_ret
            exact ⟨by rw [HTT.out]; rfl, rfl⟩
        · have e1 : decide ((9000 : Int) < (rk : Int)) = false := decide_eq_false (by omega)
          have e1' : decide (9000 < rk) = false := decide_eq_false (by omega)
          have e2 : decide ((9000 : Int) < (rv : Int)) = false := decide_eq_false (by omega)
          have e2' : decide (9000 < rv) = false := decide_eq_false (by omega)
          rw [e1', e2'] at HR
          go_wp2_with fail
          refine ⟨⟨j + 1, by simp, by omega, trivial, Lib.hid ?_⟩, by simp [intOf]; omega⟩
          rw [HTK.out.1, List.any_append, HI.out]
          simp [HR.out]
      · obtain rfl : j = n := by omega
        have HTT : Hid (largeT most l = false) := Lib.hid (by
          rw [HT.out]
          have h1 := HI.out
          rwa [List.take_of_length_le (by rw [HL.out.2.2]; exact Nat.le_refl _)] at h1)
        clear HI
        go_wp2_with fail
        go_ret
        exact ⟨by rw [HTT.out]; rfl, rfl⟩
end Go.Proofs.Ytmkjejngnahpeaa
/- Disk: New, without fates. -/
namespace Go.Proofs.Ytmkjejngnahpeaa
open Go Go.Maps Go.RowKit

set_option maxHeartbeats 400000 in
theorem indexFate_nil (f : Value) (w : World) : Calls Try.prog 168 #[.slice none 0 0, f] w fun e w' => e = .returned (.int .i64 (-1)) ∧ w' = w := by
  go_enter Try.func168, Try.ntmps168
  go_wp2_with fail
  go_loop [8] (fun i => i = .int .i64 0) (fun _ => 0)
  case atStart => rfl
  case round =>
    subst hrel
    go_wp2_with fail
    go_ret
    exact ⟨rfl, rfl⟩
set_option maxHeartbeats 400000 in
theorem containsFate_nil (f : Value) (w : World) : Calls Try.prog 143 #[.slice none 0 0, f] w fun e w' => e = .returned (.bool false) ∧ w' = w := by
  go_enter Try.func143, Try.ntmps143
  go_wp2_with fail
  refine (indexFate_nil f _).mono ?_
  rintro e w' ⟨rfl, rfl⟩
  go_wp2_with fail
  go_ret
  exact ⟨rfl, rfl⟩
set_option maxHeartbeats 400000 in
theorem right_nil (w : World) : Calls Try.prog 89 #[.slice none 0 0] w fun e w' => e = .returned (.bool true) ∧ w' = w := by
  go_enter Try.func89, Try.ntmps89
  go_wp2_with fail
  refine (containsFate_nil _ _).mono ?_
  rintro e w' ⟨rfl, rfl⟩
  go_wp2_with fail
  go_ret
  exact ⟨rfl, rfl⟩
set_option maxHeartbeats 400000 in
theorem cloneFate_nil (w : World) : Calls Try.prog 90 #[.slice none 0 0] w fun e w' => e = .returned (.slice none 0 0) ∧ w' = w := by
  have hnil : ∀ W : World, (binOp .eql 65 (.slice none 0 0) (.slice none 0 0)).run Try.prog W = .ok (.bool true) W := fun W => by kernel_rfl
  go_enter Try.func90, Try.ntmps90
  go_wp2_with fail
  go_ret
  exact ⟨rfl, rfl⟩
def Dk.new : Dk := ⟨[], [], 0⟩
theorem disk_new (w : World) : DiskIs ((w.alloc (.map #[] 0)).alloc (.cells #[.map (some w.heap.size), .slice none 0 0, .int .i64 0] 122)) (fun k => w.heap.size ≤ k ∧ k < w.heap.size + 2) (w.heap.size + 1) w.heap.size (.slice none 0 0) [] Dk.new where
  files := rfl
  head := by
    have := alloc_cells (w.alloc (.map #[] 0)) #[.map (some w.heap.size), .slice none 0 0, .int .i64 0] 122
    rw [World.size_alloc] at this
    exact this
  fates := ⟨by simp [fateCells, Dk.new], .inl ⟨rfl, rfl⟩⟩
  map := ⟨_, (World.ownsMap_made w Try.prog 9 ptrElem).alloc _, Dic.empty⟩
  each := fun x hx => (by cases hx)
  apart := by simp [diskBlocks, Value.ownBlock]
  foot := fun k hk => by
    simp [diskBlocks, Value.ownBlock] at hk
    omega
  low := fun k hk => by simp; omega
  sorted := by simp [Dk.new]
  names := fun f hf => by simp [Dk.new] at hf
  few := by simp [Dk.new]
set_option maxHeartbeats 400000 in
theorem new_b (w : World) : Calls Try.prog 23 #[.slice none 0 0] w fun e w' => ∃ q, e = .returned (.tuple #[.pointer (some ⟨q, 0, none⟩), .int .i64 0]) ∧ DiskAt w' (fun k => w.heap.size ≤ k ∧ k < w'.heap.size) q Dk.new ∧ Below w.heap.size w w' := by
  have hmm := @run_makeMap Try.prog
  go_enter Try.func23, Try.ntmps23
  go_wp2_with fail
  refine (right_nil _).mono ?_
  rintro e w' ⟨rfl, rfl⟩
  go_wp2_with fail
  refine (cloneFate_nil _).mono ?_
  rintro e w1 ⟨rfl, rfl⟩
  go_wp2_with fail
  go_ret2
  refine ⟨_, rfl, ⟨_, _, _, (disk_new w').wider (fun k hk => ⟨hk.1, by simp; omega⟩) (fun k hk => hk.2)⟩, ((Below.refl _ _).alloc (Nat.le_refl _) _).alloc (by simp) _⟩
end Go.Proofs.Ytmkjejngnahpeaa
/- Disk: all names, rising. -/
namespace Go.Proofs.Ytmkjejngnahpeaa
open Go Go.RowKit Go.Maps Go.Sort Go.Shelf
open Go.Proofs (encStr)

def keysL_ren : Go.Shelf.Ren := ⟨fun | 7 => 160 | 10 => 182 | n => n, fun | 23 => 120 | 26 => 9 | 3 => 176 | 28 => 244 | 0 => 0 | 27 => 243 | 33 => 27 | 4 => 4 | n => n, fun | n => n⟩
theorem keysL : Go.Proofs.SlLaysZ.n7 Try.prog keysL_ren := {
  mixed := by kernel_rfl
  f7 := ⟨Try.f160.name, by decide, Try.func160.trans (congrArg some (by kernel_rfl))⟩
  f10 := ⟨Try.f182.name, by decide, Try.func182.trans (congrArg some (by kernel_rfl))⟩
  t0 := Try.underlying0
  a0 := Try.isAgg0
  z0 := Try.sizeOf0
  v0 := Try.zeroValue0
  t4 := Try.underlying4
  a4 := Try.isAgg4
  z4 := Try.sizeOf4
  v4 := Try.zeroValue4
  t23 := Try.underlying120
  a23 := Try.isAgg120
  z23 := Try.sizeOf120
  v23 := Try.zeroValue120
  t26 := Try.underlying9
  a26 := Try.isAgg9
  z26 := Try.sizeOf9
  v26 := Try.zeroValue9
  t27 := Try.underlying243
  a27 := Try.isAgg243
  z27 := Try.sizeOf243
  v27 := Try.zeroValue243
  t28 := Try.underlying244
  a28 := Try.isAgg244
  z28 := Try.sizeOf244
  v28 := Try.zeroValue244
  t33 := Try.underlying27
  a33 := Try.isAgg27
  z33 := Try.sizeOf27
  v33 := Try.zeroValue27
}
def sortedL_ren : Go.Shelf.Ren := ⟨fun | 6 => 159 | 8 => 180 | 9 => 181 | 11 => 188 | 13 => 190 | 12 => 189 | 23 => 200 | 24 => 201 | 14 => 191 | 15 => 192 | 16 => 193 | 17 => 194 | 18 => 195 | 19 => 196 | 20 => 197 | 21 => 198 | 22 => 199 | 25 => 202 | 26 => 203 | 27 => 204 | 28 => 205 | 29 => 206 | 30 => 207 | 31 => 208 | n => n, fun | 26 => 9 | 28 => 244 | 24 => 94 | 0 => 0 | 3 => 3 | 37 => 152 | 48 => 228 | 50 => 227 | 4 => 4 | 40 => 273 | 39 => 272 | 45 => 278 | 5 => 5 | 9 => 9 | 51 => 282 | 55 => 286 | 57 => 288 | 58 => 86 | 33 => 27 | n => n, fun | n => n⟩
theorem sortedL : Go.Proofs.SlLaysZ.n6 Try.prog sortedL_ren := {
  mixed := by kernel_rfl
  f6 := ⟨Try.f159.name, by decide, Try.func159.trans (congrArg some (by kernel_rfl))⟩
  f8 := ⟨Try.f180.name, by decide, Try.func180.trans (congrArg some (by kernel_rfl))⟩
  f11 := ⟨Try.f188.name, by decide, Try.func188.trans (congrArg some (by kernel_rfl))⟩
  t0 := Try.underlying0
  a0 := Try.isAgg0
  z0 := Try.sizeOf0
  v0 := Try.zeroValue0
  t24 := Try.underlying94
  a24 := Try.isAgg94
  z24 := Try.sizeOf94
  v24 := Try.zeroValue94
  t26 := Try.underlying9
  a26 := Try.isAgg9
  z26 := Try.sizeOf9
  v26 := Try.zeroValue9
  t28 := Try.underlying244
  a28 := Try.isAgg244
  z28 := Try.sizeOf244
  v28 := Try.zeroValue244
  i26 := by kernel_rfl
}
def sortL_ren : Go.Shelf.Ren := ⟨fun | 6 => 181 | 8 => 190 | 9 => 189 | 19 => 200 | 20 => 201 | 21 => 191 | 22 => 192 | 23 => 193 | 24 => 194 | 25 => 195 | 26 => 196 | 27 => 197 | 28 => 198 | 29 => 199 | 36 => 202 | 31 => 203 | 32 => 204 | 37 => 205 | 38 => 206 | 39 => 207 | 41 => 208 | n => n, fun | 27 => 94 | 29 => 9 | 3 => 3 | 32 => 152 | 26 => 94 | 0 => 0 | 44 => 228 | 46 => 227 | 4 => 4 | 36 => 273 | 35 => 272 | 41 => 278 | 5 => 5 | 9 => 9 | 53 => 282 | 57 => 286 | 63 => 288 | 64 => 86 | n => n, fun | n => n⟩
theorem sortL : Go.Proofs.SlLaysM.n6 Try.prog sortL_ren := {
  mixed := by kernel_rfl
  f6 := ⟨Try.f181.name, by decide, Try.func181.trans (congrArg some (by kernel_rfl))⟩
  f8 := Try.func190.trans (congrArg some (by kernel_rfl))
  f9 := ⟨Try.f189.name, by decide, Try.func189.trans (congrArg some (by kernel_rfl))⟩
  f19 := Try.func200.trans (congrArg some (by kernel_rfl))
  f20 := Try.func201.trans (congrArg some (by kernel_rfl))
  f21 := ⟨Try.f191.name, by decide, Try.func191.trans (congrArg some (by kernel_rfl))⟩
  f22 := ⟨Try.f192.name, by decide, Try.func192.trans (congrArg some (by kernel_rfl))⟩
  f23 := ⟨Try.f193.name, by decide, Try.func193.trans (congrArg some (by kernel_rfl))⟩
  f24 := ⟨Try.f194.name, by decide, Try.func194.trans (congrArg some (by kernel_rfl))⟩
  f25 := ⟨Try.f195.name, by decide, Try.func195.trans (congrArg some (by kernel_rfl))⟩
  f26 := ⟨Try.f196.name, by decide, Try.func196.trans (congrArg some (by kernel_rfl))⟩
  f27 := ⟨Try.f197.name, by decide, Try.func197.trans (congrArg some (by kernel_rfl))⟩
  f28 := ⟨Try.f198.name, by decide, Try.func198.trans (congrArg some (by kernel_rfl))⟩
  f29 := ⟨Try.f199.name, by decide, Try.func199.trans (congrArg some (by kernel_rfl))⟩
  f31 := Try.func203.trans (congrArg some (by kernel_rfl))
  f32 := Try.func204.trans (congrArg some (by kernel_rfl))
  f36 := ⟨Try.f202.name, by decide, Try.func202.trans (congrArg some (by kernel_rfl))⟩
  f37 := ⟨Try.f205.name, by decide, Try.func205.trans (congrArg some (by kernel_rfl))⟩
  f38 := ⟨Try.f206.name, by decide, Try.func206.trans (congrArg some (by kernel_rfl))⟩
  f39 := ⟨Try.f207.name, by decide, Try.func207.trans (congrArg some (by kernel_rfl))⟩
  f41 := ⟨Try.f208.name, by decide, Try.func208.trans (congrArg some (by kernel_rfl))⟩
  t0 := Try.underlying0
  a0 := Try.isAgg0
  z0 := Try.sizeOf0
  v0 := Try.zeroValue0
  t3 := Try.underlying3
  a3 := Try.isAgg3
  z3 := Try.sizeOf3
  v3 := Try.zeroValue3
  t4 := Try.underlying4
  a4 := Try.isAgg4
  z4 := Try.sizeOf4
  v4 := Try.zeroValue4
  t5 := Try.underlying5
  a5 := Try.isAgg5
  z5 := Try.sizeOf5
  v5 := Try.zeroValue5
  t9 := Try.underlying9
  a9 := Try.isAgg9
  z9 := Try.sizeOf9
  v9 := Try.zeroValue9
  t26 := Try.underlying94
  a26 := Try.isAgg94
  z26 := Try.sizeOf94
  v26 := Try.zeroValue94
  t27 := Try.underlying94
  a27 := Try.isAgg94
  z27 := Try.sizeOf94
  v27 := Try.zeroValue94
  t29 := Try.underlying9
  a29 := Try.isAgg9
  z29 := Try.sizeOf9
  v29 := Try.zeroValue9
  t32 := Try.underlying152
  a32 := Try.isAgg152
  z32 := Try.sizeOf152
  v32 := Try.zeroValue152
  t35 := Try.underlying272
  a35 := Try.isAgg272
  z35 := Try.sizeOf272
  v35 := Try.zeroValue272
  t36 := Try.underlying273
  a36 := Try.isAgg273
  z36 := Try.sizeOf273
  v36 := Try.zeroValue273
  t41 := Try.underlying278
  a41 := Try.isAgg278
  z41 := Try.sizeOf278
  v41 := Try.zeroValue278
  t44 := Try.underlying228
  a44 := Try.isAgg228
  z44 := Try.sizeOf228
  v44 := Try.zeroValue228
  t46 := Try.underlying227
  a46 := Try.isAgg227
  z46 := Try.sizeOf227
  v46 := Try.zeroValue227
  t53 := Try.underlying282
  a53 := Try.isAgg282
  z53 := Try.sizeOf282
  v53 := Try.zeroValue282
  t57 := Try.underlying286
  a57 := Try.isAgg286
  z57 := Try.sizeOf286
  v57 := Try.zeroValue286
  t63 := Try.underlying288
  a63 := Try.isAgg288
  z63 := Try.sizeOf288
  v63 := Try.zeroValue288
  t64 := Try.underlying86
  a64 := Try.isAgg86
  z64 := Try.sizeOf86
  v64 := Try.zeroValue86
}

theorem sortsL (m : Nat) : AnyZ.SortsIn Try.prog sortedL_ren Fence.wide m :=
  ⟨fun blk off cap ss W hH hblk hsz => callsIn_wide.2 (AnyM.slices_Sort_string sortL blk off cap ss W hH hblk hsz),
   fun p cap W => callsIn_wide.2 (AnyM.slices_Sort_string_none sortL p cap W)⟩
theorem mergeSort_self {l : List (List UInt8)} (h : l.Pairwise (fun a b => leB a b = true)) : l.mergeSort leB = l := by
  have tr : ∀ a b c : List UInt8, leB a b = true → leB b c = true → leB a c = true := fun a b c h1 h2 => by simp only [leB, decide_eq_true_eq] at *; exact List.le_trans h1 h2
  have tot : ∀ a b : List UInt8, (leB a b || leB b a) = true := fun a b => by simp only [leB, Bool.or_eq_true, decide_eq_true_eq]; exact List.le_total a b
  refine List.Perm.eq_of_pairwise (le := fun a b => leB a b = true) (fun a b _ _ h1 h2 => ?_) (List.pairwise_mergeSort tr tot l) h (List.mergeSort_perm l leB)
  simp only [leB, decide_eq_true_eq] at h1 h2
  exact List.le_antisymm h1 h2
set_option maxHeartbeats 1000000 in
theorem names_b {w : World} {S : Nat → Prop} {q mb : Nat} {fv : Value} {L : List Fl} {d : Dk} (h : DiskIs w S q mb fv L d) :
    Calls Try.prog 112 #[.pointer (some ⟨q, 0, none⟩)] w fun e w' => ∃ v, e = .returned v ∧
      w'.ownsRow w.heap.size 9 1 v L.length (L.map fun x => encStr x.f.name) ∧ (v = .slice none 0 0 ↔ L = []) ∧ Below w.heap.size w w' := by
  obtain ⟨D0, hown, hsz, hd⟩ := h.look
  have hnd : (L.map fun x => x.f.name).Nodup := h.nodup
  have hperm := hd.perm hown (by rw [List.map_map]; exact hnd)
  rw [List.map_map] at hperm
  have hsorted : (L.map fun x => x.f.name).Pairwise (fun a b => leB a b = true) := by
    have h1 := h.sorted
    rw [← h.files, List.map_map] at h1
    exact h1.imp (fun {a b} hab => by simpa [leB] using List.le_of_lt hab)
  have hlen : L.length ≤ 4096 := by
    have h1 := h.few
    rw [← h.files, List.length_map] at h1
    exact h1
  have HP := Lib.hid (And.intro hperm (And.intro hsorted hlen))
  have c0 : w.cell? ⟨q, 0, none⟩ = some (.map (some mb)) := cell_of h.head rfl
  have H := Lib.hid h
  refine (callsIn_wide (n := 6)).1 ?_
  have hbl := hown.lt
  have hseq : SeqGives Fence.wide 2 Try.prog 182 #[.pointer (some ⟨w.heap.size, 0, none⟩)] encStr (fun ss => ss.Perm (strKeys D0)) (Maps.size D0) (w.alloc (.cells #[.map (some mb)] 120)) :=
    AnyZ.keys_gives (ρ := keysL_ren) { keysL with } Fence.wide _ trivial rfl (by omega) w.heap.size mb L.length D0 _ (by simp) (by simp) (by
      obtain ⟨es, clock, hb, Ft, hs, hD⟩ := hown
      exact ⟨es, clock, (Below.heap_alloc _ _ mb hbl).trans hb, Ft, hs, hD⟩)
  have cK : ∀ mb W, CallsIn Fence.wide 5 Try.prog 160 #[.map mb] W fun e w' => e = .returned (.func (.func 182) #[] #[.pointer (some ⟨W.heap.size, 0, none⟩)]) ∧ w' = W.alloc (.cells #[.map mb] 120) := fun mb W => AnyZ.keys_in keysL Fence.wide 5 trivial rfl mb W
  have cS := AnyZ.sorted_in sortedL Fence.wide 5 trivial trivial trivial trivial rfl (by omega) (sortsL _) (enters_of Try.func181 (by kernel_rfl) rfl) 182 #[.pointer (some ⟨w.heap.size, 0, none⟩)] trivial (enters_of Try.func182 (by kernel_rfl) rfl) _ _ (by rw [hsz]; unfold maxLen; omega) (by rw [hsz]; omega) _ hseq
  change CallsIn _ _ Try.prog 159 _ _ _ at cS
  have cN : CallsIn Fence.wide 5 Try.prog 108 #[.pointer (some ⟨q, 0, none⟩)] w fun e w' => e = .returned (.bool false) ∧ w' = w := callsIn_wide.2 (none_b H.out)
  have hfK : Fence.wide.fn 160 := trivial
  have hfS : Fence.wide.fn 159 := trivial
  have hfN : Fence.wide.fn 108 := trivial
  clear hseq hd hown h hperm hsorted
  refine callsIn_of_wp Try.func112 rfl trivial ?_ rfl
  simp only [Try.ntmps112, List.size_toArray, List.length_cons, List.length_nil, Nat.reduceAdd, Nat.reduceSub, Array.replicate_succ, Array.replicate_zero, List.push_toArray, List.append_toArray, List.nil_append, List.cons_append]
  gi_wp2_with (first
    | (gi_at_call 108; refine cN.mono ?_; rintro e w' ⟨rfl, rfl⟩)
    | (gi_at_call 160; refine (cK _ _).mono ?_; rintro e w' ⟨rfl, rfl⟩)
    | (gi_at_call 159; refine cS.mono ?_; rintro e w' ⟨v, ss, rfl, hS, hrow, hnil, hb⟩))
  go_ret
  have hpp : ss.Perm (L.map fun x => x.f.name) := hS.trans HP.out.1.symm
  have hms : (ss.mergeSort fun x y => decide (x ≤ y)) = L.map fun x => x.f.name := (mergeSort_of_perm hpp).trans (mergeSort_self HP.out.2.1)
  have hl : ss.length = L.length := by rw [hpp.length_eq, List.length_map]
  rw [hms, hl, List.map_map] at hrow
  refine ⟨v, rfl, ownsRow_base_a hrow (by simp), ?_, ((Below.refl _ _).alloc (Nat.le_refl _) _).trans (hb.mono (by simp))⟩
  rw [hnil, ← List.length_eq_zero_iff, ← List.length_eq_zero_iff, hl]
end Go.Proofs.Ytmkjejngnahpeaa
