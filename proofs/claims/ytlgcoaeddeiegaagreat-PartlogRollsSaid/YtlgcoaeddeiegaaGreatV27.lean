/- The texts Pzw in one. -/
import Derived.Test.YtlgcoaeddeiegaaGreatV19
import Derived.Test.YtlgcoaeddeiegaaGreatV24
import Derived.Test.YtlgcoaeddeiegaaGreatV25
import Derived.Test.YtlgcoaeddeiegaaGreatV26
/- PartlogRolls: what the walk asks of a log at home. -/
namespace Go.Proofs.YtlgcoaeddeiegaaGreat
open Go Go.Maps Go.RowKit
attribute [local go_sem] Oper.semAt_some

section
variable {w w1 w2 : World} {X Y : Nat → Prop} {lp q : Nat} {log : ByteArray} {roll step : Nat} {g : Lg} {d : Dk}
/-- blocks of X turn, and new ones come -/
theorem Home.off (h : Home w X w1 lp q log roll step g d) (ho : Only Y w1 w2) (hY : ∀ k, Y k → X k ∧ w.heap.size ≤ k) : Home w (fun k => X k ∨ (w1.heap.size ≤ k ∧ k < w2.heap.size)) w2 lp q log roll step g d := by
  obtain ⟨S, T, h1, h2⟩ := h.log'
  obtain ⟨G, a, pv, hm⟩ := h1.log'
  refine ⟨⟨S, T, ⟨h1.disk.onlyS ho (fun k hk e => (h2 k (.inl hk)).2 (hY k e).1), ⟨G, a, pv, hm.only ho (fun k hk e => (h2 k (.inr hk)).2 (hY k e).1)⟩, h1.apart⟩, fun k hk => ⟨(h2 k hk).1, fun e => ?_⟩⟩, h.below.trans (ho.below (fun i hi e => by have := (hY i e).2; omega) h.below.size), fun k hk => ?_⟩
  · rcases e with e | e
    · exact (h2 k hk).2 e
    · have := h1.lows k hk
      omega
  · rcases hk with e | e
    · exact Nat.lt_of_lt_of_le (h.xlow k e) ho.size
    · exact e.2
theorem homeSegs_b (h : Home w X w1 lp q log roll step g d) (hs : g.segs.length ≤ 4096) :
    Calls Tryz.prog 18 #[.pointer (some ⟨lp, 0, none⟩)] w1 fun e w' => ∃ v, e = .returned v ∧ rowAt w' 9 1 v g.segs.length (segNamesV log g.segs) ∧ (∀ k, v.ownBlock = some k → w1.heap.size ≤ k) ∧ Below w1.heap.size w1 w' := by
  obtain ⟨S, T, h1, h2⟩ := h.log'
  obtain ⟨G, a, pv, hm⟩ := h1.log'
  exact segments_b hm hs
theorem homeRead_b (h : Home w X w1 lp q log roll step g d) (hfit : LgFit log g d) {f u most : Nat} (hf : g.begin ≤ f) (hfu : f ≤ u) (hu : u ≤ g.fin) (hmost : most ≤ 100000000) :
    Calls Tryz.prog 23 #[.pointer (some ⟨lp, 0, none⟩), .int .i64 (f : Int), .int .i64 (u : Int), .int .i64 (most : Int)] w1 fun e w' => ReadS w1 (readGo f u most g.segsR []) e w' := by
  obtain ⟨S, T, h1, h2⟩ := h.log'
  exact logRead_b h1 hfit.toQ hf hfu hu hmost
theorem homeLook_b (h : Home w X w1 lp q log roll step g d) (hfit : LgFit log g d) (hlog : loggedB log.data.toList = true) (hz : log.size ≤ 8) {s : Nat × List Bat} (hs : s ∈ g.segs) :
    Calls Tryz.prog 20 #[.pointer (some ⟨q, 0, none⟩), .string (segName log s.1)] w1 fun e w' => e = .returned (.tuple #[foundV s.2.length (s.1 + cntT s.2) (batsT s.2).length (whyT []), .int .i64 0]) ∧ Below w1.heap.size w1 w' := by
  obtain ⟨S, T, h1, h2⟩ := h.log'
  obtain ⟨G, a, pv, hm⟩ := h1.log'
  obtain ⟨hch, hbl⟩ := hm.ok.chain s hs
  obtain ⟨f, hf, hfb⟩ := hfit s hs
  obtain ⟨hk, hn⟩ := sname_ok hlog hbl
  exact lookS_b h1.disk (segName_size hz) hk hn hf (by rw [hfb, List.append_nil]) ⟨hch.good, .inl rfl⟩ hch hbl
theorem homeFile_b (h : Home w X w1 lp q log roll step g d) (hfit : LgFit log g d) (_hlog : loggedB log.data.toList = true) (hz : log.size ≤ 8) {s : Nat × List Bat} (hs : s ∈ g.segs) :
    (batsT s.2).length ≤ 16777216 ∧ Calls Tryz.prog 21 #[.pointer (some ⟨q, 0, none⟩), .string (segName log s.1), .int .i64 0, .int .i64 ((batsT s.2).length : Int)] w1 fun e w' => ReadIs w1 (batsT s.2, 0) e w' := by
  obtain ⟨S, T, h1, h2⟩ := h.log'
  obtain ⟨f, hf, hfb⟩ := hfit s hs
  obtain ⟨hn1, hn2, hok, hlen⟩ := h1.disk.has hf
  rw [hfb] at hlen
  refine ⟨hlen, ?_⟩
  have h3 := read_b h1.disk (segName log s.1) (Nat.le_trans (segName_size hz) (by decide)) 0 ((batsT s.2).length : Int) (by omega) (by omega)
  have e : d.read (segName log s.1).data.toList 0 ((batsT s.2).length : Int) = (batsT s.2, 0) := by
    show d.read (sname log s.1) 0 _ = _
    unfold Dk.read
    rw [if_neg (by rw [hok]; simp), hf]
    show (if _ then _ else _) = _
    rw [if_neg (by omega), hfb]
    have e2 : min ((batsT s.2).length : Int).toNat ((batsT s.2).length - (0 : Int).toNat) = (batsT s.2).length := by
      show min (batsT s.2).length ((batsT s.2).length - 0) = _
      omega
    rw [e2, Int.toNat_zero, List.drop_zero, List.take_length]
  rwa [e] at h3
end
/-- a new disk, and a new log on it -/
def OpenF (w : World) (q : Nat) (roll : Int) (e : Ending) (w' : World) : Prop :=
  (e = .returned (.tuple #[.pointer none, .int .i64 2]) ∧ Below w.heap.size w w') ∨
  (∃ (lp roll' step' : Nat), (roll' : Int) = roll ∧ e = .returned (.tuple #[.pointer (some ⟨lp, 0, none⟩), .int .i64 0]) ∧ Home w (fun _ => False) w' lp q pName roll' step' Lg.zero (Dk.new.first pName) ∧ 1 ≤ roll' ∧ roll' ≤ 16711680)
theorem openFresh_b {w w1 : World} {q : Nat} (h : DiskAt w1 (fun k => w.heap.size ≤ k ∧ k < w1.heap.size) q Dk.new) (hb : Below w.heap.size w w1) (roll step : Int) :
    Calls Tryz.prog 15 #[.pointer (some ⟨q, 0, none⟩), .string pName, .agg #[.int .i64 roll, .int .i64 step]] w1 fun e w' => OpenF w q roll e w' := by
  refine (openNew_b h (log := pName) (by decide) pName_ok rfl roll step).mono ?_
  rintro e w2 ho
  obtain ⟨i1, i2, c0⟩ := first_calm pName_ok (d := Dk.new) rfl rfl
  rcases ho with ⟨-, g1, g2⟩ | ⟨-, g0, -⟩ | ⟨-, -, g0, -⟩ | ⟨-, -, -, lp, roll', step', S2, T2, er, es, rfl, hd2, hS, hT, ho2⟩
  · exact .inl ⟨g1, hb.trans (g2.mono hb.size)⟩
  · exact absurd i1 g0
  · exact absurd i2 g0
  · obtain ⟨G, a, pv, hm⟩ := hd2.log'
    refine .inr ⟨lp, roll', step', er, rfl, ⟨⟨S2, T2, hd2, fun k hk => ⟨?_, id⟩⟩, hb.trans (ho2.below (fun i hi e => by have := e.1; omega) hb.size), fun _ hf => hf.elim⟩, hm.rollB.1, hm.rollB.2⟩
    have hz := hb.size
    rcases hk with hk | hk
    · rcases hS k hk with e | e
      · exact e.1
      · have := e.1; omega
    · have := hT k hk; omega
theorem tmod_low (a : Int) (n : Nat) : -(n : Int) ≤ Int.tmod a ((n : Int) + 1) := by
  have h1 := Int.natAbs_tmod a ((n : Int) + 1)
  have h2 : ((n : Int) + 1).natAbs = n + 1 := by omega
  rw [h2] at h1
  have h3 := Nat.mod_lt a.natAbs (show 0 < n + 1 by omega)
  omega
theorem rolls_begin {roll : Nat} {g : Lg} (h : Rolls bSize bCnt roll 0 true g.segs) : g.begin = 0 := by
  have h0 : 0 < g.segs.length := by unfold Lg.segs; simp
  have h1 := (rolls_get g.segs 0 true h 0 h0).1
  have h2 : g.segs[0].1 = 0 := h1
  unfold Lg.begin
  cases hi : g.ini with
  | nil =>
    have h3 : g.segs = [(g.lb, g.lbs)] := by unfold Lg.segs; rw [hi]; rfl
    simp only [h3, List.getElem_cons_zero] at h2
    exact h2
  | cons s r =>
    have h3 : g.segs = s :: (r ++ [(g.lb, g.lbs)]) := by unfold Lg.segs; rw [hi]; rfl
    simp only [h3, List.getElem_cons_zero] at h2
    exact h2
/-- what the two Reads answer -/
theorem rolls_reads {roll : Nat} {g : Lg} {d : Dk} {R : List Rc} {t k : Nat} (h : RollI roll g d R t) (hk : k ≤ R.length) :
    readGo 0 k (R.length + 1) g.segsR [] = R.take k ∧ readGo k R.length (R.length + 1) g.segsR [] = R.drop k := by
  have hb := h.calm.ok.behind
  rw [rolls_begin h.rolls] at hb
  have hr : g.segsR.flatMap (·.2) = R := by rw [← h.recs]; exact g.recs_map
  have e1 := readGo_eq 0 k (R.length + 1) g.segsR 0 [] hb
  have e2 := readGo_eq k R.length (R.length + 1) g.segsR 0 [] hb
  rw [hr] at e1 e2
  rw [e1, e2]
  refine ⟨?_, ?_⟩
  · rw [List.nil_append, List.drop_zero]
    congr 1
    simp
    omega
  · rw [List.nil_append, Nat.sub_zero, List.take_of_length_le]
    rw [List.length_drop]
    simp
    omega
/-- all records of a list are appended, in fenced words, by an operation that may be guarded -/
theorem wpListIn_append_recsW {F : Fence} {n : Nat} {w2 : World} {ops : Array Oper} {rest : List Oper} {o : Oper} {a : Act} {Q : Exit → Act → World → Prop} (hw : Region.wanted o (yielded ops a.tmps) = true) (s x : Operand)
    (ho : o.op = .call { callee := .builtin .append, args := #[s, x], argTypes := #[34, 34] })
    {oa ob : Option Addr} {m c k d : Nat} {xs ys : List RcV} {P : Nat → Prop} (h : RowP P w2 (.slice oa m c) xs) (hxm : xs.length = m) (hm : m ≤ 100000000) (hy : RecsIs w2 (.slice ob k d) ys) (hyk : ys.length = k) (hk : k ≤ 100000000)
    (hs : a.eval s = .slice oa m c) (hx : a.eval x = .slice ob k d)
    (hK : ∀ oa3 c3 w3, Hid (rowAt w3 150 3 (.slice oa3 (m + k) c3) (m + k) (recsCells xs ++ recsCells ys)) → Hid (w2.grownBy w3 (Value.slice oa m c).ownBlock) →
      Hid ((Value.slice oa3 (m + k) c3).ownBlock = (Value.slice oa m c).ownBlock ∨ (Value.slice oa3 (m + k) c3).ownBlock = some w2.heap.size) → wpListIn F n Tryz.prog ops Q rest (a.put o.dst (.slice oa3 (m + k) c3)) w3) :
    wpListIn F n Tryz.prog ops Q (o :: rest) a w2 := by
  subst hxm
  subst hyk
  have h1 : ∀ v ∈ recsCells ys, v.oneCell' = true := fun v hv => by
    unfold recsCells at hv
    obtain ⟨y, hym, hv⟩ := List.mem_flatMap.1 hv
    obtain ⟨e1, e2⟩ := hy.each y hym
    simp only [recCells, List.mem_cons, List.not_mem_nil, or_false] at hv
    rcases hv with rfl | rfl | rfl
    · rfl
    · exact slice_one' e1
    · exact slice_one' e2
  refine wpListIn_step fun K hK' => ?_
  simp only [hw, if_true]
  obtain ⟨i, hi, hz, hsz, hbi⟩ := info_parts info_rc
  obtain ⟨v', w3, hrun, r1, r2, r3, r4⟩ := run_append_at (P := Tryz.prog) w2 34 34 o.type 150 i _ 3 56 Tryz.underlying34 hi hz hsz hbi rfl _ xs.length (recsCells xs) h.row _ ys.length (recsCells ys) (Src.of_read Tryz.underlying34 hy.row h1) (by unfold maxLen; omega) (by omega)
  obtain ⟨oa3, c3, rfl, _⟩ := r1.shape
  unfold Oper.wpIn
  refine ⟨?_, ?_⟩
  · simp [Oper.about, ho, resolve, Target.leads, Sem.run_pure]
  · rw [Oper.semAt_plain F _ _ (by rw [ho]; intro c hc'; cases hc')]
    simp [execOp, ho, resolve, invoke, builtin, hs, hx, hrun, Result.andThen]
    exact hK' _ _ (hK oa3 c3 w3 (Lib.hid r1) (Lib.hid r2) (Lib.hid (by simpa using r3)))
end Go.Proofs.YtlgcoaeddeiegaaGreat
