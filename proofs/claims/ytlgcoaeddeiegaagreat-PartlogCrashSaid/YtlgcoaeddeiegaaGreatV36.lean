/- The texts Xra, Xo, Xp in one. -/
import Derived.Test.YtlgcoaeddeiegaaGreatV33
import Derived.TacticsInMore
import Derived.Test.YtlgcoaeddeiegaaGreatV35
/- law11: rows appended; what is not large. -/
namespace Go.Proofs.YtlgcoaeddeiegaaGreat
open Go Go.Maps Go.RowKit Go.Shelf

theorem rowsP_append {V w3 : World} {n m c c3 : Nat} {oa oa3 : Option Addr} {P : Nat → Prop} {xs ys : List RcV} (h : RowP P V (.slice oa n c) xs) (hn : xs.length = n) (hm : ys.length = m)
    (hys : ∀ x ∈ ys, rowAt V 5 1 x.kv x.r.key.length (byteCells x.r.key) ∧ rowAt V 5 1 x.vv x.r.val.length (byteCells x.r.val) ∧ (∀ k, x.kv.ownBlock = some k → P k) ∧ (∀ k, x.vv.ownBlock = some k → P k))
    (hP : ∀ k, V.heap.size ≤ k → k < w3.heap.size → P k)
    (hr : rowAt w3 150 3 (.slice oa3 (n + m) c3) (n + m) (recsCells xs ++ recsCells ys)) (hg : V.grownBy w3 (Value.slice oa n c).ownBlock) (ho : (Value.slice oa3 (n + m) c3).ownBlock = (Value.slice oa n c).ownBlock ∨ (Value.slice oa3 (n + m) c3).ownBlock = some V.heap.size) : RowP P w3 (.slice oa3 (n + m) c3) (xs ++ ys) := by
  subst hn
  subst hm
  have hov : Only (fun k => (Value.slice oa xs.length c).ownBlock = some k) V w3 := Only.of_grown hg (fun k hk => hk)
  have keep : ∀ {u : Value} {k : Nat} {cs : List Value}, rowAt V 5 1 u k cs → rowAt w3 5 1 u k cs := fun {u k cs} hu => hu.kept (fun i hi => hov.block i (hu.lt i hi) (hu.types h.row (by decide) hi))
  refine ⟨?_, fun k hk => ?_, fun x hx => ?_⟩
  · rw [recsCells_append, List.length_append]
    exact hr
  · rcases ho with e | e
    · exact h.own k (by rw [← e]; exact hk)
    · have h1 := hr.lt k hk
      rw [hk] at e
      simp only [Option.some.injEq] at e
      exact hP k (by omega) h1
  · rcases List.mem_append.1 hx with hx | hx
    · obtain ⟨g1, g2, g3, g4⟩ := h.each x hx
      exact ⟨keep g1, keep g2, g3, g4⟩
    · obtain ⟨g1, g2, g3, g4⟩ := hys x hx
      exact ⟨keep g1, keep g2, g3, g4⟩
theorem large_not {m : Nat} {l : List Rc} (h : largeT m l = false) : l.length ≤ m ∧ ∀ r ∈ l, r.key.length ≤ 1000000 ∧ r.val.length ≤ 1000000 := by
  unfold largeT at h
  simp only [Bool.or_eq_false_iff, decide_eq_false_iff_not, List.any_eq_false] at h
  refine ⟨by omega, fun r hr => ?_⟩
  have h2 := h.2 r hr
  unfold Rc.large at h2
  simp at h2
  omega

end Go.Proofs.YtlgcoaeddeiegaaGreat
/- law11: PartlogCrash: the arms of its switch. -/
namespace Go.Proofs.YtlgcoaeddeiegaaGreat
open Go Go.Maps Go.RowKit
attribute [local go_sem] Oper.semAt_some

structure CrH (w2 w3 : World) (lp q r st : Nat) (X : Nat → Prop) (g : Lg) (d : Dk) (ys : List RcV) (A0 : List Bat) (k : Nat) (D : DataW Unit) (v : Value) (nz mb t b15 m : Nat) (x : StpV) (o1 : Option Addr) (e1 : Nat) : Prop where
  s : CrS w2 w3 lp q r st X g d ys A0 [] [] k D v nz mb t
  al : g.dead = false
  box : w3.heap[b15]? = some (.cells #[.int .i64 x.kind, .int .i64 x.most, .int .i64 x.frm, .int .i64 x.unt, .slice o1 m e1, x.fv, x.pv, .string x.nm, x.bv] 41 (0, 0))
  bX : X b15
  recs : ∀ W, Below w2.heap.size w2 W → RecsAt W (.slice o1 m e1) x.recs
  len : x.recs.length = m
  small : m ≤ 30
  kv : ∀ y ∈ x.recs, y.key.length ≤ 1000000 ∧ y.val.length ≤ 1000000
  ht : t < 60
  rb : 1 ≤ r ∧ r ≤ 16711680
def CrQ (w2 : World) (os op oa : Option Addr) (b3 ns cs np cp na ca q lp r st mb i b15 t : Nat) (K : Act → World → Prop) : Prop :=
  ∀ (oz : Option Addr) (nz cz : Nat) (v93 : Value) (u : Nat → Value) (wx : World), CrJ false w2 wx lp q r st (.slice oz nz cz) nz mb (t + 1) → K ⟨frC os op oa oz b3 ns cs np cp na ca q lp nz cz mb i (.pointer (some ⟨b15, 0, none⟩)) v93 u, []⟩ wx
theorem CrQ.go {w2 wx : World} {os op oa : Option Addr} {b3 ns cs np cp na ca q lp r st mb i b15 t : Nat} {K : Act → World → Prop} (h : CrQ w2 os op oa b3 ns cs np cp na ca q lp r st mb i b15 t K) (oz : Option Addr) (nz cz : Nat) (v93 : Value) (hj : CrJ false w2 wx lp q r st (.slice oz nz cz) nz mb (t + 1)) {l : Array Value} (hl : l = frC os op oa oz b3 ns cs np cp na ca q lp nz cz mb i (.pointer (some ⟨b15, 0, none⟩)) v93 (fun k => l.toList.getD k undef)) : K ⟨l, []⟩ wx := by
  rw [hl]
  exact h oz nz cz v93 _ wx hj
section
variable {w2 w3 : World} {os op oa oz o1 : Option Addr} {b3 ns cs np cp na ca q lp r st nz cz mb i b15 t k m e1 : Nat} {v93 : Value} {u : Nat → Value} {X : Nat → Prop} {g : Lg} {d : Dk} {ys : List RcV} {A0 : List Bat} {D : DataW Unit} {x : StpV} {K : Act → World → Prop} {Q : Exit → Act → World → Prop}
set_option maxRecDepth 100000 in
set_option maxHeartbeats 2000000 in
theorem cr_arm2 (h : CrH w2 w3 lp q r st X g d ys A0 k D (.slice oz nz cz) nz mb t b15 m x o1 e1) (hQ : CrQ w2 os op oa b3 ns cs np cp na ca q lp r st mb i b15 t K) :
    Code.wp Tryz.prog crA2 (Exit.then K Q) ⟨frC os op oa oz b3 ns cs np cp na ca q lp nz cz mb i (.pointer (some ⟨b15, 0, none⟩)) v93 u, []⟩ w3 := by
  have HS := Lib.hid (homeSync_b h.s.home)
  have H := Lib.hid h
  have HQ := Lib.hid hQ
  clear h hQ
  unfold frC
  conv => arg 2; whnf
  go_wp2_with fail
  refine HS.out.mono ?_
  rintro e w4 ⟨rfl, hh4, hk4⟩
  obtain ⟨c1, c2⟩ := H.out.s.cri.syncT H.out.al pName_ok H.out.s.home.sorted
  have hs4 := (H.out.s.turn hh4 hk4 c1 (by rw [c2])).up
  have HJ : Hid (CrJ false w2 w4 lp q r st (.slice oz nz cz) nz mb (t + 1)) := Lib.hid ⟨_, _, _, _, _, _, _, _, _, hs4, fun e => by cases e⟩
  obtain ⟨er, her⟩ : ∃ er, er = (g.syncT pName d).1 := ⟨_, rfl⟩
  rw [← her]
  clear hh4 hk4 c1 c2 hs4 her HS
  go_wp2_with fail
  exact HQ.out.go oz nz cz v93 HJ.out (by kernel_rfl)
set_option maxRecDepth 100000 in
set_option maxHeartbeats 2000000 in
theorem cr_arm4 (h : CrH w2 w3 lp q r st X g d ys A0 k D (.slice oz nz cz) nz mb t b15 m x o1 e1) (hQ : CrQ w2 os op oa b3 ns cs np cp na ca q lp r st mb i b15 t K) :
    Code.wp Tryz.prog crA4 (Exit.then K Q) ⟨frC os op oa oz b3 ns cs np cp na ca q lp nz cz mb i (.pointer (some ⟨b15, 0, none⟩)) v93 u, []⟩ w3 := by
  have HS := Lib.hid (homeDrop_b h.s.home x.unt)
  have H := Lib.hid h
  have HQ := Lib.hid hQ
  have k3 : w3.cell? ⟨b15, 3, none⟩ = some (.int .i64 x.unt) := cell_of h.box rfl
  clear h hQ
  unfold frC
  conv => arg 2; whnf
  go_wp2_with fail
  refine HS.out.mono ?_
  rintro e w4 ⟨⟨nd, rfl⟩, hh4, hk4⟩
  obtain ⟨A1, B1, c1, c2⟩ := H.out.s.cri.drop H.out.al pName_ok H.out.s.home.sorted x.unt
  have hs4 := (H.out.s.turn hh4 hk4 c1 (by rw [List.append_nil, List.append_nil, List.append_nil]; exact c2)).up
  have HJ : Hid (CrJ false w2 w4 lp q r st (.slice oz nz cz) nz mb (t + 1)) := Lib.hid ⟨_, _, _, _, _, _, _, _, _, hs4, fun e => by cases e⟩
  obtain ⟨er, her⟩ : ∃ er, er = (g.dropT pName x.unt d).1 := ⟨_, rfl⟩
  rw [← her]
  clear hh4 hk4 c1 c2 hs4 her HS k3
  go_wp2_with fail
  exact HQ.out.go oz nz cz v93 HJ.out (by kernel_rfl)
end
end Go.Proofs.YtlgcoaeddeiegaaGreat
/- law11: PartlogCrash: a batch is written down. -/
namespace Go.Proofs.YtlgcoaeddeiegaaGreat
open Go Go.Maps Go.RowKit
attribute [local go_sem] Oper.semAt_some

theorem rowAt.notMap {w : World} {e : TypeId} {s n mb : Nat} {v : Value} {xs : List Value} (h : rowAt w e s v n xs) {es : Array MapEntry} {c : Nat} (hm : w.heap[mb]? = some (.map es c)) : v.ownBlock ≠ some mb := fun hv => by
  rcases h.2 with ⟨rfl, -⟩ | ⟨g, off, cap, cur, fr, rfl, hg, -⟩
  · simp [Value.ownBlock] at hv
  · simp only [Value.ownBlock, Option.some.injEq] at hv
    subst hv
    rw [hm] at hg
    cases hg
theorem wpList_append_recsC {w2 : World} {ops : Array Oper} {rest : List Oper} {o : Oper} {a : Act} {Q : Exit → Act → World → Prop} (hgd : o.guard = none) (s x : Operand)
    (ho : o.op = .call { callee := .builtin .append, args := #[s, x], argTypes := #[34, 34] })
    {oa ob : Option Addr} {m c k d : Nat} {xs ys : List RcV} {P : Nat → Prop} (h : RowP P w2 (.slice oa m c) xs) (hxm : xs.length = m) (hm : m ≤ 100000000) (hy : RecsIs w2 (.slice ob k d) ys) (hyk : ys.length = k) (hk : k ≤ 100000000)
    (hs : a.eval s = .slice oa m c) (hx : a.eval x = .slice ob k d)
    (hK : ∀ oa3 c3 w3, Hid (rowAt w3 150 3 (.slice oa3 (m + k) c3) (m + k) (recsCells xs ++ recsCells ys)) → Hid (w2.grownBy w3 (Value.slice oa m c).ownBlock) →
      Hid ((Value.slice oa3 (m + k) c3).ownBlock = (Value.slice oa m c).ownBlock ∨ (Value.slice oa3 (m + k) c3).ownBlock = some w2.heap.size) → wpList Tryz.prog ops Q rest (a.put o.dst (.slice oa3 (m + k) c3)) w3) :
    wpList Tryz.prog ops Q (o :: rest) a w2 := by
  subst hxm
  subst hyk
  have h1 : ∀ v ∈ recsCells ys, v.oneCell' = true := fun v hv => by
    unfold recsCells at hv
    obtain ⟨y, hym, hv⟩ := List.mem_flatMap.1 hv
    obtain ⟨e1, e2⟩ := hy.each y hym
    simp only [recCells, List.mem_cons, List.not_mem_nil, or_false] at hv
    rcases hv with rfl | rfl | rfl
    · rfl
    · exact slice_one' e1
    · exact slice_one' e2
  refine wpList_plain hgd fun K hK' => ?_
  obtain ⟨i, hi, hz, hsz, hbi⟩ := info_parts info_rc
  obtain ⟨v', w3, hrun, r1, r2, r3, r4⟩ := run_append_at (P := Tryz.prog) w2 34 34 o.type 150 i _ 3 56 Tryz.underlying34 hi hz hsz hbi rfl _ xs.length (recsCells xs) h.row _ ys.length (recsCells ys) (Src.of_read Tryz.underlying34 hy.row h1) (by unfold maxLen; omega) (by omega)
  obtain ⟨oa3, c3, rfl, _⟩ := r1.shape
  unfold Oper.wp
  simp [execOp, ho, resolve, invoke, builtin, hs, hx, hrun, Result.andThen]
  exact hK' _ _ (hK oa3 c3 w3 (Lib.hid r1) (Lib.hid r2) (Lib.hid (by simpa using r3)))
section
variable {w2 w3 w4 w5 w6 : World} {oz oa3 o5 : Option Addr} {lp q r st nz cz c3 c5 mb t k m : Nat} {X : Nat → Prop} {g g' : Lg} {d d' : Dk} {ys zs : List RcV} {A0 XX' : List Bat} {D : DataW Unit} {e : Int} {l : List Rc}
structure CrW (w2 w6 : World) (lp q r st : Nat) (X : Nat → Prop) (g : Lg) (d : Dk) (ys : List RcV) (A0 XX : List Bat) (k : Nat) (D : DataW Unit) (v : Value) (nz mb t : Nat) (W : List Bat) (b : Bat) : Prop where
  home : Home w2 X w6 lp q pName r st g d
  cri : CrI pName g d A0 [] XX
  recs : ys.map (·.r) = recsT (A0 ++ [] ++ g.bats ++ XX)
  len : ys.length = nz
  row : RowP (fun k => X k ∧ w2.heap.size ≤ k) w6 v ys
  map : w6.ownsMap Tryz.prog 2 (plainElem Tryz.prog 3) mb k D
  ends : EndsI D W
  all : A0 ++ [] ++ g.bats ++ XX = W ++ [b]
  mbX : X mb ∧ w2.heap.size ≤ mb
  few : nz ≤ 30 * (t + 1)
theorem CrS.add (hs : CrS w2 w3 lp q r st X g d ys A0 [] [] k D (.slice oz nz cz) nz mb t) (h4 : Home w2 X w4 lp q pName r st g' d') (k4 : KeptOf X w3 w4) (c1 : CrI pName g' d' A0 [] XX') (hW : A0 ++ [] ++ g'.bats ++ XX' = A0 ++ [] ++ g.bats ++ [] ++ [(e, l)])
    (hb : Below w4.heap.size w4 w5) (hz : RowP (fun k => w4.heap.size ≤ k) w5 (.slice o5 m c5) zs) (hzl : zs.map (·.r) = l) (hzm : zs.length = m) (hm : m ≤ 30)
    (hr : rowAt w6 150 3 (.slice oa3 (nz + m) c3) (nz + m) (recsCells ys ++ recsCells zs)) (hg : w5.grownBy w6 (Value.slice oz nz cz).ownBlock) (ho : (Value.slice oa3 (nz + m) c3).ownBlock = (Value.slice oz nz cz).ownBlock ∨ (Value.slice oa3 (nz + m) c3).ownBlock = some w5.heap.size) :
    ∃ X6, CrW w2 w6 lp q r st X6 g' d' (ys ++ zs) A0 XX' k D (.slice oa3 (nz + m) c3) (nz + m) mb t (A0 ++ [] ++ g.bats ++ []) (e, l) := by
  have hlow := h4.below.size
  have hrow5 : RowP (fun k => X k ∧ w2.heap.size ≤ k) w5 (.slice oz nz cz) ys := (hs.row.kept (fun k _ hp => k4 k hp.1)).later hb
  have hmap4 := ownsMap_keptC hs.map (k4 mb hs.mbX.1)
  have hmb4 := h4.xlow mb hs.mbX.1
  have hmap5 := ownsMap_keptC hmap4 (hb.block mb hmb4)
  have hnm : (Value.slice oz nz cz).ownBlock ≠ some mb := by
    obtain ⟨es, cl, e1, -⟩ := hmap5
    exact hrow5.row.notMap e1
  have hmap6 := ownsMap_keptC (w' := w6) hmap5 (hg.block mb (Nat.lt_of_lt_of_le hmb4 hb.size) (fun e => hnm e.symm))
  refine ⟨_, (h4.more hb).off (Y := fun k => (Value.slice oz nz cz).ownBlock = some k) (Only.of_grown hg (fun k hk => hk)) (fun k hk => ?_), c1, ?_, by rw [List.length_append, hs.len, hzm], ?_, hmap6, hs.ends, hW, ⟨.inl (.inl hs.mbX.1), hs.mbX.2⟩, by have := hs.few.2; omega⟩
  · have := hrow5.own k hk
    exact ⟨.inl this.1, this.2⟩
  · rw [hW, recsT_append, List.map_append, hs.recs, hzl]
    simp [recsT]
  · refine rowsP_append (hrow5.mono (fun k _ hp => ⟨.inl (.inl hp.1), hp.2⟩)) hs.len hzm (fun y hy => ?_) (fun k h1 h2 => ⟨.inr ⟨h1, h2⟩, by have := hb.size; omega⟩) hr hg ho
    obtain ⟨q1, q2, q3, q4⟩ := hz.each y hy
    exact ⟨q1, q2, fun k hk => ⟨.inl (.inr ⟨q3 k hk, q1.lt k hk⟩), Nat.le_trans hlow (q3 k hk)⟩, fun k hk => ⟨.inl (.inr ⟨q4 k hk, q2.lt k hk⟩), Nat.le_trans hlow (q4 k hk)⟩⟩
theorem RowP.offMap {P Q : Nat → Prop} {w w' : World} {v : Value} {xs : List RcV} {es : Array MapEntry} {c mb : Nat} (h : RowP P w v xs) (hm : w.heap[mb]? = some (.map es c)) (hg : w.grownBy w' (some mb)) (hP : ∀ k, P k → Q k) : RowP Q w' v xs := by
  have keep : ∀ {T : TypeId} {s n : Nat} {u : Value} {cs : List Value}, rowAt w T s u n cs → rowAt w' T s u n cs := fun {T s n u cs} hr => hr.kept (fun k hk => hg.block k (hr.lt k hk) (fun e => hr.notMap hm (by rw [hk]; exact e)))
  exact ⟨keep h.row, fun k hk => hP k (h.own k hk), fun x hx => by
    obtain ⟨h1, h2, h3, h4⟩ := h.each x hx
    exact ⟨keep h1, keep h2, fun k hk => hP k (h3 k hk), fun k hk => hP k (h4 k hk)⟩⟩
theorem CrW.put {X : Nat → Prop} {g : Lg} {d : Dk} {XX : List Bat} {v : Value} {W : List Bat} {b : Bat} (h : CrW w2 w6 lp q r st X g d ys A0 XX k D v nz mb t W b) {n : Nat} (hn : n ≤ 1000000) (hk : k ≤ 1000) :
    ∃ w7, (Instr.mapUpdate 66 (.map (some mb)) (.int .i64 (n : Int)) (.int .i64 1)).run Tryz.prog w6 = .ok () w7 ∧ Hid (∃ X7, CrW w2 w7 lp q r st X7 g d ys A0 XX (k + 1) (D.put (.int .i64 (n : Int)) (.lit (.int .i64 1))) v nz mb t W b) := by
  obtain ⟨w7, e1, e2, e3⟩ := h.map.update (t := 66) (int_keyed Tryz.underlying2) Tryz.underlying66 (by unfold maxLen; omega) (key_i64 (k := n) (by omega)) (plainElem_int Tryz.underlying3 (a := 1) (by decide))
  obtain ⟨es, cl, m1, -⟩ := h.map
  exact ⟨w7, e1, Lib.hid ⟨_, h.home.off (Y := fun k => k = mb) (Only.of_grown e3 (fun k hk => by simpa using hk.symm)) (fun k hk => by subst hk; exact h.mbX), h.cri, h.recs, h.len, h.row.offMap m1 e3 (fun k hp => ⟨.inl hp.1, hp.2⟩), e2, h.ends.put n, h.all, ⟨.inl h.mbX.1, h.mbX.2⟩, h.few⟩⟩
theorem CrW.done {X : Nat → Prop} {g : Lg} {d : Dk} {XX : List Bat} {v : Value} {W : List Bat} {b : Bat} (h : CrW w2 w6 lp q r st X g d ys A0 XX k D v nz mb t W b) (hE : EndsI D (W ++ [b])) (hk : k ≤ 1 + 2 * (t + 1)) : CrS w2 w6 lp q r st X g d ys A0 [] XX k D v nz mb (t + 1) :=
  ⟨h.home, h.cri, h.recs, h.len, h.row, h.map, by rw [h.all]; exact hE, h.mbX, ⟨hk, h.few⟩⟩
theorem CrS.fin (hs : CrS w2 w3 lp q r st X g d ys A0 [] [] k D (.slice oz nz cz) nz mb t) : g.fin = nz ∧ cntT (A0 ++ [] ++ g.bats ++ []) = nz := by
  have h1 : cntT (A0 ++ [] ++ g.bats ++ []) = nz := by rw [← recsT_len, ← hs.recs, List.length_map, hs.len]
  refine ⟨?_, h1⟩
  rw [hs.cri.ok.fin_bats, ← h1, ← hs.cri.begin, List.append_nil, List.append_nil, cntT_append]
end
end Go.Proofs.YtlgcoaeddeiegaaGreat
