/- The texts Pzt in one. -/
import Derived.Test.YtlgcoaeddeiegaaGreatV8
import Derived.Test.YtlgcoaeddeiegaaGreatV30
import Derived.Deep.RegionLaw
import Derived.BigRegion
/- the document's Copy of records. -/
namespace Go.Proofs.YtlgcoaeddeiegaaGreat
open Go Go.Maps Go.RowKit
attribute [local go_sem] Oper.semAt_some

theorem info_u8P : (Tryz.prog.info? 5).map (fun i => (i.zero, i.size, i.bytes)) = some (some (.int .u8 0), 1, 1) := by kernel_rfl
theorem byteCells_oneP (l : List UInt8) : ∀ v ∈ byteCells l, v.oneCell' = true := fun v hv => by
  unfold byteCells at hv
  obtain ⟨b, -, rfl⟩ := List.mem_map.1 hv
  rfl
theorem drewP {w V : World} (h : Below w.heap.size w V) : Below w.heap.size w V.drew := h.trans ((bdrew V).mono h.size)
theorem step_u8P {w V : World} {ops : Array Oper} {o : Oper} {a : Act} {K : Act → World → Prop} {Q : Exit → Act → World → Prop} {E : Prop}
    (hg : o.guard = none) (x : Operand) (ho : o.op = .call { callee := .builtin .append, args := #[.const (.slice none 0 0), x], argTypes := #[39, 39] })
    {v : Value} {l : List UInt8} (h : readAt w 1 v l.length (byteCells l)) {n : Nat} (hn : l.length = n) (hb : Below w.heap.size w V) (hm : n ≤ 1000000) (hx : a.eval x = v)
    (hK : ∀ oa c w3, Hid (rowAt w3 5 1 (.slice oa n c) n (byteCells l) ∧ Below V.heap.size V w3 ∧ Below w.heap.size w w3 ∧ ∀ k, (Value.slice oa n c).ownBlock = some k → w.heap.size ≤ k) → K (a.put o.dst (.slice oa n c)) w3) :
    if Region.wanted o (yielded ops a.tmps) = true then Oper.wp Tryz.prog o a V K Q else E := by
  have hw : Region.wanted o (yielded ops a.tmps) = true := by simp [Region.wanted, hg]
  rw [if_pos hw]
  subst hn
  obtain ⟨i, hi, hz, hsz, hby⟩ := info_parts info_u8P
  obtain ⟨v', w', hrun, r1, r2, r3, r4⟩ := run_append_at (P := Tryz.prog) V 39 39 o.type 5 i _ 1 1 Tryz.underlying39 hi hz hsz hby rfl (.slice none 0 0) 0 [] ⟨rfl, .inl ⟨rfl, rfl⟩⟩ v _ (byteCells l) (Src.of_read Tryz.underlying39 (h.kept (fun k hk _ _ => hb.block k hk)) (byteCells_oneP l)) (by unfold maxLen; omega) (by omega)
  obtain ⟨oa3, c3, rfl, _⟩ := r1.shape
  rw [Nat.zero_add] at hrun
  have he : a.eval (.const (.slice none 0 0)) = .slice none 0 0 := rfl
  have hb3 : Below V.heap.size V w' := (Below.refl _ _).grown r2 (Nat.le_refl _) (fun k e => by cases e)
  unfold Oper.wp
  simp [execOp, ho, resolve, invoke, builtin, he, hx, hrun, Result.andThen]
  refine hK oa3 c3 w' (Lib.hid ⟨by simpa using r1, hb3, hb.trans (hb3.mono hb.size), fun k hk => ?_⟩)
  rcases r3 with e | e
  · rw [Nat.zero_add, hk] at e
    simp [Value.ownBlock] at e
  · rw [Nat.zero_add, hk] at e
    simp only [Option.some.injEq] at e
    have := hb.size
    omega
theorem step_recP {w wr V : World} {ops : Array Oper} {o : Oper} {a : Act} {K : Act → World → Prop} {Q : Exit → Act → World → Prop} {E : Prop}
    (hg : o.guard = none) (s x : Operand) (ho : o.op = .call { callee := .builtin .append, args := #[s, x], argTypes := #[34, 34] })
    {oa : Option Addr} {m c : Nat} {xs : List RcV} (h : RowP (fun k => w.heap.size ≤ k) wr (.slice oa m c) xs) (hxm : xs.length = m) (hm : m ≤ 1000000) (hbw : Below w.heap.size w wr) (hb : Below wr.heap.size wr V)
    {ob : Option Addr} {d : Nat} {y : RcV} (hy : readAt V 3 (.slice ob 1 d) 1 (recCells y)) (hk : rowAt V 5 1 y.kv y.r.key.length (byteCells y.r.key)) (hv : rowAt V 5 1 y.vv y.r.val.length (byteCells y.r.val)) (hko : ∀ k, y.kv.ownBlock = some k → w.heap.size ≤ k) (hvo : ∀ k, y.vv.ownBlock = some k → w.heap.size ≤ k)
    (hs : a.eval s = .slice oa m c) (hx : a.eval x = .slice ob 1 d)
    (hK : ∀ oa3 c3 w3, Hid (RowP (fun k => w.heap.size ≤ k) w3 (.slice oa3 (m + 1) c3) (xs ++ [y]) ∧ Below w.heap.size w w3) → K (a.put o.dst (.slice oa3 (m + 1) c3)) w3) :
    if Region.wanted o (yielded ops a.tmps) = true then Oper.wp Tryz.prog o a V K Q else E := by
  have hw : Region.wanted o (yielded ops a.tmps) = true := by simp [Region.wanted, hg]
  rw [if_pos hw]
  subst hxm
  have hone : ∀ v ∈ recCells y, v.oneCell' = true := fun v hvm => by
    simp only [recCells, List.mem_cons, List.not_mem_nil, or_false] at hvm
    rcases hvm with rfl | rfl | rfl
    · rfl
    · exact slice_one hk
    · exact slice_one hv
  have hV := h.later hb
  obtain ⟨i, hi, hz, hsz, hbi⟩ := info_parts info_rc
  obtain ⟨v', w3, hrun, r1, r2, r3, r4⟩ := run_append_at (P := Tryz.prog) V 34 34 o.type 150 i _ 3 56 Tryz.underlying34 hi hz hsz hbi rfl _ xs.length (recsCells xs) hV.row _ 1 (recCells y) (Src.of_read Tryz.underlying34 hy hone) (by unfold maxLen; omega) (by omega)
  obtain ⟨oa3, c3, rfl, _⟩ := r1.shape
  unfold Oper.wp
  simp [execOp, ho, resolve, invoke, builtin, hs, hx, hrun, Result.andThen]
  refine hK oa3 c3 w3 (Lib.hid ⟨⟨?_, fun k hk' => ?_, fun z hz => ?_⟩, ?_⟩)
  · rw [recsCells_append, one_rec, List.length_append]
    exact r1
  · rcases r3 with e | e
    · exact hV.own k (by rw [← e]; exact hk')
    · rw [hk'] at e
      simp only [Option.some.injEq] at e
      have := hb.size
      have := hbw.size
      omega
  · have hov : Only (fun k => (Value.slice oa xs.length c).ownBlock = some k) V w3 := Only.of_grown r2 (fun k hk => hk)
    have keep : ∀ {u : Value} {k : Nat} {cs : List Value}, rowAt V 5 1 u k cs → rowAt w3 5 1 u k cs := fun {u k cs} hu => hu.kept (fun i hi => hov.block i (hu.lt i hi) (hu.types hV.row (by decide) hi))
    rcases List.mem_append.1 hz with hz | hz
    · obtain ⟨g1, g2, g3, g4⟩ := hV.each z hz
      exact ⟨keep g1, keep g2, g3, g4⟩
    · rw [List.mem_singleton] at hz
      subst hz
      exact ⟨keep hk, keep hv, hko, hvo⟩
  · exact (hbw.trans (hb.mono hbw.size)).grown r2 (Nat.le_trans hbw.size hb.size) (fun k e => hV.own k e)
theorem rowUp {w V : World} {t : TypeId} {n : Nat} {v : Value} {cs : List Value} {k : Nat} (h : rowAt w t k v n cs) (hb : Below w.heap.size w V) : rowAt V t k v n cs := h.kept (fun i hi => hb.block i (h.lt i hi))
theorem allocP (w : World) (o : Obj) : Below w.heap.size w (w.alloc o) := (Below.refl _ _).alloc (Nat.le_refl _) _
set_option maxRecDepth 100000 in
set_option maxHeartbeats 8000000 in
theorem copy05_b {w : World} {oa : Option Addr} {n c : Nat} {l : List Rc} (hl : RecsAt w (.slice oa n c) l) (hn : l.length = n) (hnm : n ≤ 1000000) (hkv : ∀ r ∈ l, r.key.length ≤ 1000000 ∧ r.val.length ≤ 1000000) :
    Calls Tryz.prog 17 #[.slice oa n c] w fun e w' => ∃ v xs, e = .returned v ∧ xs.map (·.r) = l ∧ RowP (fun k => w.heap.size ≤ k) w' v xs ∧ Below w.heap.size w w' := by
  obtain ⟨zs, hzl, hri⟩ := hl
  have hzn : zs.length = n := by rw [← hn, ← hzl, List.length_map]
  have H := Lib.hid (And.intro hzl (And.intro hri (And.intro hzn hkv)))
  clear hzl hri hzn hkv hn
  go_enter Tryz.func17, Tryz.ntmps17
  go_wp2_with fail
  go_loopw [3, 4] (fun s3 s4 wr => ∃ (t : Nat) (oz : Option Addr) (cz : Nat) (ys : List RcV), s4 = .int .i64 (t : Int) ∧ s3 = .slice oz t cz ∧ t ≤ n ∧ Hid (ys.length = t ∧ ys.map (·.r) = l.take t ∧ RowP (fun k => w.heap.size ≤ k) wr (.slice oz t cz) ys ∧ Below w.heap.size w wr)) (fun _ s4 _ => n - (intOf s4).toNat)
  case atStart => exact ⟨0, none, 0, [], rfl, rfl, Nat.zero_le _, Lib.hid ⟨rfl, by simp, RowP.nil _ _, Below.refl _ _⟩⟩
  case round =>
    obtain ⟨t, oz, cz, ys, rfl, rfl, ht, HR⟩ := hrel
    by_cases hlt : t < n
    · have hi : t < zs.length := by rw [H.out.2.2.1]; exact hlt
      have hrw := H.out.2.1.below HR.out.2.2.2
      have hmem : zs[t] ∈ zs := List.getElem_mem hi
      obtain ⟨g, off, ka, kc, va, vc, rfl, hkv, hvv, c0, c1, c2⟩ := hrw.cells H.out.2.2.1 hi
      obtain ⟨x, hx⟩ : ∃ x, x = zs[t] := ⟨_, rfl⟩
      rw [← hx] at hkv hvv c0 c1 c2 hmem
      have hrd := hrw.each x hmem
      have hlr : x.r ∈ l := by rw [← H.out.1]; exact List.mem_map.2 ⟨x, hmem, rfl⟩
      have hle := H.out.2.2.2 _ hlr
      have htk : ys.map (·.r) ++ [x.r] = l.take (t + 1) := by
        have h1 : t < l.length := by rw [← H.out.1, List.length_map]; exact hi
        rw [List.take_succ_eq_append_getElem h1, HR.out.2.1]
        congr 2
        simp only [← H.out.1, List.getElem_map, hx]
      obtain ⟨tm, htm⟩ : ∃ a, a = x.r.time := ⟨_, rfl⟩
      obtain ⟨nk, hnk⟩ : ∃ a, x.r.key.length = a := ⟨_, rfl⟩
      obtain ⟨nv, hnv⟩ : ∃ a, x.r.val.length = a := ⟨_, rfl⟩
      rw [← htm] at c0
      rw [hnk] at hkv c1 hle
      rw [hnv] at hvv c2 hle
      rw [hkv, hvv] at hrd
      have hgl := World.block_lt_of_cell? wr _ c0
      have HC : Hid (∀ V : World, Below wr.heap.size wr V → V.cell? ⟨g, off + t * 3, none⟩ = some (.int .i64 tm) ∧ V.cell? ⟨g, off + t * 3 + 1, none⟩ = some (.slice ka nk kc) ∧ V.cell? ⟨g, off + t * 3 + 2, none⟩ = some (.slice va nv vc)) := Lib.hid (fun V hb =>
        ⟨(hb.cell (p := ⟨g, off + t * 3, none⟩) hgl).trans c0, (hb.cell (p := ⟨g, off + t * 3 + 1, none⟩) hgl).trans c1, (hb.cell (p := ⟨g, off + t * 3 + 2, none⟩) hgl).trans c2⟩)
      have HX := Lib.hid (And.intro hrd (And.intro hle (And.intro htk (And.intro htm (And.intro hnk hnv)))))
      have HONE : Hid (∀ (V : World) (a b : Value), readAt (V.alloc (.cells #[.int .i64 tm, a, b] 150)) 3 (.slice (some ⟨V.heap.size, 0, none⟩) 1 1) 1 (recCells ⟨x.r, a, b⟩)) := Lib.hid (fun V a b => by
        rw [show recCells ⟨x.r, a, b⟩ = [.int .i64 x.r.time, a, b] from rfl, ← htm]
        exact (one_rowR V 150 3 [.int .i64 tm, a, b] rfl).read)
      have htm6 : t ≤ 1000000 := by omega
      have d0 : wr.drew.cell? ⟨g, off + t * 3, none⟩ = some (.int .i64 tm) := c0
      have d1 : wr.drew.cell? ⟨g, off + t * 3 + 1, none⟩ = some (.slice ka nk kc) := c1
      have d2 : wr.drew.cell? ⟨g, off + t * 3 + 2, none⟩ = some (.slice va nv vc) := c2
      have hkL : nk ≤ 1000000 := hle.1
      have hvL : nv ≤ 1000000 := hle.2
      clear hrw hmem hkv hvv hx hi hrd hlr hle htk htm hnk hnv hgl
      go_upto_region 5 with fail
      go_region_law (first
        | (refine step_u8P (w := wr) (by rfl) (.tmp 21) (by rfl) HX.out.1.1 HX.out.2.2.2.2.1 (by first | exact Below.refl _ _ | exact bdrew wr | exact HV.out.2.2.1 | exact drewP HV.out.2.2.1) hkL (by rfl) ?_; intro oa1 ca1 wk HK; obtain ⟨e0, e1, e2⟩ := HC.out wk HK.out.2.2.1; have e0d : wk.drew.cell? ⟨g, off + t * 3, none⟩ = some (.int .i64 tm) := e0; have e1d : wk.drew.cell? ⟨g, off + t * 3 + 1, none⟩ = some (.slice ka nk kc) := e1; have e2d : wk.drew.cell? ⟨g, off + t * 3 + 2, none⟩ = some (.slice va nv vc) := e2)
        | (refine step_u8P (w := wr) (by rfl) (.tmp 27) (by rfl) HX.out.1.2 HX.out.2.2.2.2.2 (by first | exact Below.refl _ _ | exact bdrew wr | exact HK.out.2.2.1 | exact drewP HK.out.2.2.1) hvL (by rfl) ?_; intro oa2 ca2 wv HV; obtain ⟨f0, f1, f2⟩ := HC.out wv HV.out.2.2.1; have f0d : wv.drew.cell? ⟨g, off + t * 3, none⟩ = some (.int .i64 tm) := f0; have f1d : wv.drew.cell? ⟨g, off + t * 3 + 1, none⟩ = some (.slice ka nk kc) := f1; have f2d : wv.drew.cell? ⟨g, off + t * 3 + 2, none⟩ = some (.slice va nv vc) := f2)
        | (refine step_recP (w := w) (wr := wr) (by rfl) (.tmp 11) (.tmp 30) (by rfl) (y := ⟨x.r, .slice oa1 nk ca1, .slice oa2 nv ca2⟩) HR.out.2.2.1 HR.out.1 htm6 HR.out.2.2.2 (by first | exact HV.out.2.2.1.alloc HV.out.2.2.1.size _ | exact HK.out.2.2.1.alloc HK.out.2.2.1.size _ | exact (drewP HV.out.2.2.1).alloc HV.out.2.2.1.size _ | exact (drewP HK.out.2.2.1).alloc HK.out.2.2.1.size _) (HONE.out _ _ _)
            (by
              show rowAt _ _ 1 _ x.r.key.length (byteCells x.r.key)
              rw [HX.out.2.2.2.2.1]
              first | exact rowUp (rowUp HK.out.1 HV.out.2.1) (allocP _ _) | exact rowUp HK.out.1 (allocP _ _) | exact rowUp (rowUp HK.out.1 ((bdrew wk).trans HV.out.2.1)) (allocP _ _))
            (by
              show rowAt _ _ 1 _ x.r.val.length (byteCells x.r.val)
              rw [HX.out.2.2.2.2.2]
              first | exact rowUp (rowUp HV.out.1 HK.out.2.1) (allocP _ _) | exact rowUp HV.out.1 (allocP _ _) | exact rowUp (rowUp HV.out.1 ((bdrew wv).trans HK.out.2.1)) (allocP _ _))
            (fun k hk => Nat.le_trans HR.out.2.2.2.size (HK.out.2.2.2 k hk)) (fun k hk => Nat.le_trans HR.out.2.2.2.size (HV.out.2.2.2 k hk)) (by rfl) (by rfl) ?_; intro oa3 ca3 wf HF))
      all_goals
        have HE : Hid ((ys ++ [(⟨x.r, .slice oa1 nk ca1, .slice oa2 nv ca2⟩ : RcV)]).length = t + 1 ∧ (ys ++ [(⟨x.r, .slice oa1 nk ca1, .slice oa2 nv ca2⟩ : RcV)]).map (·.r) = l.take (t + 1) ∧ RowP (fun k => w.heap.size ≤ k) wf (.slice oa3 (t + 1) ca3) (ys ++ [(⟨x.r, .slice oa1 nk ca1, .slice oa2 nv ca2⟩ : RcV)]) ∧ Below w.heap.size w wf) := Lib.hid ⟨by rw [List.length_append, HR.out.1]; rfl, by rw [List.map_append]; exact HX.out.2.2.1, HF.out.1, HF.out.2⟩
        clear c0 c1 c2 d0 d1 d2 HK HV HF e0 e1 e2 e0d e1d e2d f0 f1 f2 f0d f1d f2d HC HX HONE
        go_wp2_with fail
        exact ⟨⟨t + 1, oa3, ca3, _, by simp, rfl, by omega, HE⟩, by simp [intOf]; omega⟩
    · obtain rfl : t = n := by omega
      have htl : l.take t = l := by
        have h1 : l.length = t := by rw [← H.out.1, List.length_map, H.out.2.2.1]
        rw [← h1, List.take_length]
      have HE := Lib.hid htl
      clear htl
      go_wp2_with fail
      go_ret
      exact ⟨_, ys, rfl, by rw [HR.out.2.1, HE.out], HR.out.2.2.1, HR.out.2.2.2⟩
end Go.Proofs.YtlgcoaeddeiegaaGreat
