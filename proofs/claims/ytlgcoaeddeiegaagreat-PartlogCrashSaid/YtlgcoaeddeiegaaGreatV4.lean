/- The texts Ml in one. -/
import Derived.Test.YtlgcoaeddeiegaaGreatV3
/- record: batch, where a batch stands that was put. -/
namespace Go.Proofs.YtlgcoaeddeiegaaGreat
open Go Go.RowKit
attribute [local go_sem] Oper.semAt_some

theorem info_rc : (Tryz.prog.info? 150).map (fun i => (i.zero, i.size, i.bytes)) = some (some (.agg #[.int .i64 0, .slice none 0 0, .slice none 0 0]), 3, 56) := by kernel_rfl
theorem wpList_rec1 {w0 W : World} {ops : Array Oper} {rest : List Oper} {o : Oper} {a : Act} {Q : Exit → Act → World → Prop} (hgd : o.guard = none) (s x : Operand)
    (ho : o.op = .call { callee := .builtin .append, args := #[s, x], argTypes := #[34, 34] }) {oa : Option Addr} {m c : Nat} {xs : List RcV} (h : NewR w0 W (.slice oa m c) xs) (hm : m ≤ 1000000) {y : RcV} {cs : Array Value} (hcs : cs = (recCells y).toArray) (h1 : ∀ v ∈ recCells y, v.oneCell' = true)
    (hx : rowAt W 5 1 y.kv y.r.key.length (byteCells y.r.key) ∧ rowAt W 5 1 y.vv y.r.val.length (byteCells y.r.val) ∧ (∀ k, y.kv.ownBlock = some k → w0.heap.size ≤ k) ∧ (∀ k, y.vv.ownBlock = some k → w0.heap.size ≤ k))
    (hs : a.eval s = .slice oa m c) (hy : a.eval x = .slice (some ⟨W.heap.size, 0, none⟩) 1 1)
    (hK : ∀ oa3 c3 w3, Hid (NewR w0 w3 (.slice oa3 (m + 1) c3) (xs ++ [y])) → Hid (Only (fun k => (Value.slice oa m c).ownBlock = some k) W w3) → wpList Tryz.prog ops Q rest (a.put o.dst (.slice oa3 (m + 1) c3)) w3) :
    wpList Tryz.prog ops Q (o :: rest) a (W.alloc (.cells cs 150)) := by
  subst hcs
  have hlm : xs.length = m := by
    obtain ⟨oa', c', he, _⟩ := h.row.shape
    simp only [Value.slice.injEq] at he
    exact he.2.1.symm
  subst hlm
  have hb : Below W.heap.size W (W.alloc (.cells (recCells y).toArray 150)) := (Below.refl _ _).alloc (Nat.le_refl _) _
  have hone : rowAt (W.alloc (.cells (recCells y).toArray 150)) 150 3 (.slice (some ⟨W.heap.size, 0, none⟩) 1 1) 1 (recCells y) :=
    ⟨rfl, .inr ⟨_, 0, 1, _, _, rfl, alloc_cells _ _ _, Nat.le_refl _, by unfold maxLen; omega, by simp [recCells], freeRow_zero _, rfl⟩⟩
  refine wpList_append_at _ hgd s x 34 34 ho 150 _ 3 56 Tryz.underlying34 info_rc rfl _ xs.length (recsCells xs) hs (h.row.kept (fun k hk => Below.heap_alloc _ _ k (h.row.lt k hk))) _ 1 _ hy (Src.of_read Tryz.underlying34 hone.read h1) (by unfold maxLen; omega) (by omega) ?_
  intro v' w3 hr hg hown _
  obtain ⟨oa3, c3, rfl, _⟩ := hr.shape
  refine hK oa3 c3 w3 (Lib.hid (h.snoc hx hb hr hg hown)) (Lib.hid ((Only.of_below hb (Nat.le_refl _) _).trans (Only.of_grown hg (fun k e => e)) (fun _ _ e => e)))
structure GoodB (base : Int) (l : List Rc) : Prop where
  ne : l ≠ []
  ok : ∀ r ∈ l, r.ok = true
  len : l.length ≤ 256
  size : rcsSize l ≤ 65536
  low : 0 ≤ base
  high : base + (l.length : Int) - 1 ≤ 9007199254740992
theorem GoodB.pos {base : Int} {l : List Rc} (h : GoodB base l) : 1 ≤ l.length ∧ 32 ≤ rcsSize l := by
  have h1 := h.ne
  cases l with
  | nil => exact absurd rfl h1
  | cons r l =>
    unfold rcsSize Rc.size
    rw [List.map_cons, List.sum_cons, List.length_cons]
    omega
def batchV (base : Int) (v : Value) (n : Nat) : Value := .tuple #[.agg #[.int .i64 base, v], .int .i64 (n : Int), .int .i64 0]
def BatchIs (w : World) (base : Int) (l : List Rc) (e : Ending) (w' : World) : Prop :=
  ∃ v xs, e = .returned (batchV base v (rcsSize l)) ∧ xs.map (·.r) = l ∧ NewR w w' v xs
set_option maxRecDepth 100000 in
set_option maxHeartbeats 8000000 in
theorem batchOk_b {w : World} {oa : Option Addr} {n c : Nat} {L : List UInt8} {base : Int} {l : List Rc} {tl : List UInt8} (hL : L = batchT base l ++ tl) (hn : L.length = n) (h : readAt w 1 (.slice oa n c) n (byteCells L)) (hg : GoodB base l) (hnm : n ≤ 1000000000) :
    Calls Tryz.prog 154 #[.slice oa n c] w fun e w' => BatchIs w base l e w' := by
  have hmf : ∀ (fn : Fn) (first cap : Array Value) (W : World), (Instr.makeFunc fn first cap).run Tryz.prog W = .ok (.func fn first cap) W := fun _ _ _ _ => rfl
  have HS := BtI.start w
  obtain ⟨w1, hw1⟩ : ∃ W : World, W = ((w.alloc (.cells #[.int .i64 0, .slice none 0 0] 168)).alloc (.cells #[.int .i64 0] 3)).alloc (.cells #[.int .i64 0] 28) := ⟨_, rfl⟩
  obtain ⟨b2, hb2⟩ : ∃ b, b = w.heap.size := ⟨_, rfl⟩
  obtain ⟨b3, hb3⟩ : ∃ b, b = w.heap.size + 1 := ⟨_, rfl⟩
  obtain ⟨b4, hb4⟩ : ∃ b, b = w.heap.size + 1 + 1 := ⟨_, rfl⟩
  rw [← hw1, ← hb4, ← hb3, ← hb2] at HS
  have hs4 : w1.heap.size = b4 + 1 := by rw [hw1, hb4]; simp
  have HS := Lib.hid HS
  have hp := hg.pos
  obtain ⟨sz, hsz⟩ : ∃ s, rcsSize l = s := ⟨_, rfl⟩
  obtain ⟨bn, hbn⟩ : ∃ bn : Nat, base = (bn : Int) := ⟨base.toNat, by have := hg.low; omega⟩
  subst hbn
  obtain ⟨B, hB⟩ : ∃ B, bodyT (bn : Int) l = B := ⟨_, rfl⟩
  obtain ⟨sm, hsm⟩ : ∃ s : Nat, crcSum B = (s : Int) := ⟨(crcSum B).toNat, by have := crcSum_u32 B; omega⟩
  have hsmb : sm < 4294967296 := by have := crcSum_u32 B; omega
  have hbt : batchT (bn : Int) l = leT (sz - 4) 4 ++ (leT sm 4 ++ B) := by
    unfold batchT
    rw [hsz, hB, hsm, Int.toNat_natCast, List.append_assoc]
  have hBl : B.length = sz - 8 := by rw [← hB, bodyT_len, hsz]
  have hszb := hg.size
  rw [hsz] at hszb hp
  have hLl : n = sz + tl.length := by rw [← hn, hL, List.length_append, batchT_len, hsz]
  have hc := h.cap
  have ht4 : L.take 4 = leT (sz - 4) 4 := by
    rw [hL, hbt, List.append_assoc]
    have := leT_len 4 (sz - 4)
    rw [List.take_append_of_le_length (by omega), List.take_of_length_le (by omega)]
  have hgt := get_b hn (h.kept (fun k hk _ _ => HS.out.below.block k hk)) (k := 4) (by omega) (by omega)
  rw [ht4, getT_leT 4 (sz - 4) (by omega)] at hgt
  obtain ⟨lg, hlg⟩ : ∃ x, sz - 4 = x := ⟨_, rfl⟩
  rw [hlg] at hgt hbt
  obtain ⟨g, off, rfl⟩ := h.addr (by omega)
  have hsub := h.sub 4 sz c (by omega) (by omega) (by omega) (Nat.le_refl _)
  have hcn4 : ¬ c = 4 := by omega
  rw [if_neg hcn4, Nat.mul_one, Nat.mul_one, hlg] at hsub
  have hdt : ((byteCells L).drop 4).take lg = byteCells (leT sm 4 ++ B) := by
    unfold byteCells
    rw [hL, hbt, ← List.map_drop, ← List.map_take]
    congr 1
    have h1 := leT_len 4 lg
    have h2 := leT_len 4 sm
    rw [List.append_assoc, List.drop_left' h1, List.take_left']
    rw [List.length_append, h2, hBl]
    omega
  rw [hdt] at hsub
  have hadr : (some (⟨g, off, none⟩ : Addr)).map (·.add 4) = some ⟨g, off + 4, none⟩ := by simp [Go.WideShapes.add_plain]
  rw [hadr] at hsub
  have HG := Lib.hid hgt
  have HSUB := Lib.hid hsub
  have HE := Lib.hid (And.intro hsz (And.intro hB (And.intro hsm (And.intro hBl (And.intro hg hlg)))))
  have hn0 : ((n : Int) == 0) = false := by rw [beq_eq_false_iff_ne]; omega
  have d4 : decide ((n : Int) < 4) = false := decide_eq_false (by omega)
  have e1 : decide ((lg : Int) < 28) = false := decide_eq_false (by omega)
  have e2 : decide ((65532 : Int) < (lg : Int)) = false := decide_eq_false (by omega)
  have hlb : lg ≤ 65532 := by omega
  have hlz : (lg : Int) + 4 = (sz : Int) := by omega
  have e3 : decide (n < sz) = false := decide_eq_false (by omega)
  have k3 : w1.cell? ⟨b3, 0, none⟩ = some (.int .i64 0) := cell_of HS.out.three rfl
  have z3 : w1.frozen? ⟨b3, 0, none⟩ = false := free_of HS.out.three _
  have hLn : sz ≤ n := by omega
  have HS4 := Lib.hid hs4
  clear hL hn h hgt hsub hdt hsz hB hsm hbt hBl ht4 hlg hLl hs4 hg hadr
  go_enter_defers Tryz.func154, Tryz.ntmps154
  go_upto_region 1 with fail
  rw [← hw1, ← hb4, ← hb3, ← hb2]
  clear hw1 hb4 hb3 hb2
  go_wp2_with fail
  refine HG.out.mono ?_
  rintro e w2 ⟨rfl, hw2⟩
  obtain rfl := hw2.symm
  clear hw2
  go_upto_region 10 with fail
  obtain ⟨w2, hw2⟩ : ∃ W : World, W = w1.setCell ⟨b3, 0, none⟩ (.int .i64 (sz : Int)) := ⟨_, rfl⟩
  have hs2 := HS.out.put3 (.int .i64 (sz : Int))
  rw [← hw2] at hs2 ⊢
  have hsz2 : w2.heap.size = b4 + 1 := by rw [hw2]; simpa [World.setCell] using HS4.out
  have q3 : w2.cell? ⟨b3, 0, none⟩ = some (.int .i64 (sz : Int)) := cell_of hs2.three rfl
  have H2 := Lib.hid (And.intro hs2 hsz2)
  have hmp := HE.out.2.2.2.2.2
  clear hw2 hs2 hsz2 k3 z3
  go_upto_region 13 with fail
  obtain ⟨w3, hw3⟩ : ∃ W : World, W = w2.alloc (.cells #[.slice (some ⟨g, off + 4, none⟩) lg (c - 4)] 39) := ⟨_, rfl⟩
  obtain ⟨b6, hb6⟩ : ∃ b, b = w2.heap.size := ⟨_, rfl⟩
  have h36 : w3.heap[b6]? = some (.cells #[.slice (some ⟨g, off + 4, none⟩) lg (c - 4)] 39 (0, 0)) := by rw [hw3, hb6]; exact alloc_cells _ _ _
  have hb23 : Below w2.heap.size w2 w3 := by rw [hw3]; exact (Below.refl _ _).alloc (Nat.le_refl _) _
  have hb64 : b6 = b4 + 1 := by rw [hb6]; exact H2.out.2
  have hs3 := H2.out.1.later hb23
  have hlg2 : lg = 4 + B.length := by have := HE.out.2.2.2.1; have := HE.out.2.2.2.2.2; omega
  have hr3 : RestI w w3 b6 (4 + B.length) (leT sm 4 ++ B) := ⟨⟨_, _, by rw [← hlg2]; exact h36, by rw [← hlg2]; exact HSUB.out⟩, by rw [List.length_append, leT_len]⟩
  rw [← hw3, ← hb6]
  have HPT := Lib.hid (hr3.part (leT_len 4 sm) hs3.below)
  have H3 := Lib.hid (And.intro hs3 hb64)
  clear hw3 hb6 h36 hb23 hb64 hs3 hlg2 hr3 hmp q3
  go_wp2_with fail
  refine HPT.out.mono ?_
  rintro e w4 ⟨o1, c1, o2, c2, rfl, hra, hw4, hr4⟩
  have hs4 : BtI w w4 b2 b3 b4 (.int .i64 0) (.slice none 0 0) (.int .i64 (sz : Int)) (.int .i64 0) := by rw [hw4]; exact H3.out.1.other (by have := H3.out.2; omega) _ _
  have HGT := Lib.hid (getLe_b (x := sm) (hra.kept (fun k hk _ _ => hs4.below.block k hk)) (by omega) (by omega))
  have H4 := Lib.hid (And.intro hs4 (And.intro H3.out.2 hr4))
  clear hra hw4 hr4 hs4 HPT H3
  go_wp2_with fail
  refine HGT.out.mono ?_
  rintro e w4' ⟨rfl, hw4⟩
  obtain rfl := hw4.symm
  clear hw4 HGT
  obtain ⟨ct, hct⟩ : ∃ x, l.length = x := ⟨_, rfl⟩
  obtain ⟨F, hF⟩ : ∃ x, l.flatMap Rc.bytes = x := ⟨_, rfl⟩
  have hBe : B = leT bn 8 ++ (leT ct 4 ++ F) := by
    rw [← HE.out.2.1]
    unfold bodyT
    rw [hct, hF, Int.toNat_natCast, List.append_assoc]
  have hctb : 1 ≤ ct ∧ ct ≤ 256 := by have := HE.out.2.2.2.2.1.pos.1; have := HE.out.2.2.2.2.1.len; omega
  have hbnb : bn + ct ≤ 9007199254740993 := by have := HE.out.2.2.2.2.1.high; rw [hct] at this; omega
  have HCT := Lib.hid (And.intro hct hF)
  clear hp hct hF
  obtain ⟨o5, c5, hx5, hr5⟩ := H4.out.2.2.box
  obtain ⟨BL, hBL⟩ : ∃ x, B.length = x := ⟨_, rfl⟩
  rw [hBL] at hx5 hr5
  have hBLb : BL ≤ 65536 := by have := HE.out.2.2.2.1; omega
  have k6 : w4.cell? ⟨b6, 0, none⟩ = some (.slice o5 BL c5) := cell_of hx5 rfl
  obtain ⟨w5, hw5⟩ : ∃ W : World, W = w4.alloc (.cells #[.slice o5 BL c5] 39) := ⟨_, rfl⟩
  obtain ⟨b7, hb7⟩ : ∃ b, b = w4.heap.size := ⟨_, rfl⟩
  have h57 : w5.heap[b7]? = some (.cells #[.slice o5 BL c5] 39 (0, 0)) := by rw [hw5, hb7]; exact alloc_cells _ _ _
  have hb45 : Below w4.heap.size w4 w5 := by rw [hw5]; exact (Below.refl _ _).alloc (Nat.le_refl _) _
  have hs5 := H4.out.1.later hb45
  have hcr := crcSum_b (cell_of (i := 0) h57 rfl) hBL (hr5.kept (fun k hk _ _ => hs5.below.block k hk)) (by omega)
  rw [HE.out.2.2.1] at hcr
  have HCR := Lib.hid hcr
  have hcs : IntKind.u64.wrap (sm : Int) = (sm : Int) := by rw [u64_wrap]; omega
  have H5 := Lib.hid (And.intro hb45 (And.intro hBe hBL))
  clear hx5 hr5 h57 hb45 hs5 hcr hBe hBL
  go_wp2_with fail
  rw [← hw5, ← hb7]
  clear hw5 hb7
  refine HCR.out.mono ?_
  rintro e w6 ⟨rfl, hb56⟩
  have hb46 := H5.out.1.trans (hb56.mono H5.out.1.size)
  have hs6 := H4.out.1.later hb46
  have hr6 := H4.out.2.2.later hb46
  have hB6 := H5.out.2.1
  have hF4 : BL = 8 + (4 + F.length) := by rw [← H5.out.2.2, hB6, List.length_append, List.length_append, leT_len, leT_len]
  rw [H5.out.2.2, hF4, hB6] at hr6
  have HPT := Lib.hid (hr6.part (leT_len 8 bn) hs6.below)
  have H6 := Lib.hid hs6
  clear hb56 hb46 hs6 hr6 hB6 hF4 k6 HCR
  go_wp2_with fail
  refine HPT.out.mono ?_
  rintro e w7 ⟨o7, c7, o8, c8, rfl, hra, hw7, hr7⟩
  have hs7 : BtI w w7 b2 b3 b4 (.int .i64 0) (.slice none 0 0) (.int .i64 (sz : Int)) (.int .i64 0) := by rw [hw7]; exact H6.out.other (by have := H4.out.2.1; omega) _ _
  have HGT := Lib.hid (getLe_b (x := bn) (hra.kept (fun k hk _ _ => hs7.below.block k hk)) (by omega) (by omega))
  have H7 := Lib.hid (And.intro hs7 hr7)
  clear hra hw7 hr7 hs7 HPT H6
  go_wp2_with fail
  refine HGT.out.mono ?_
  rintro e w7' ⟨rfl, hw7⟩
  obtain rfl := hw7.symm
  clear hw7 HGT
  have HPT := Lib.hid (H7.out.2.part (leT_len 4 ct) H7.out.1.below)
  go_wp2_with fail
  refine HPT.out.mono ?_
  rintro e w8 ⟨o9, c9, o10, c10, rfl, hra, hw8, hr8⟩
  have hs8 : BtI w w8 b2 b3 b4 (.int .i64 0) (.slice none 0 0) (.int .i64 (sz : Int)) (.int .i64 0) := by rw [hw8]; exact H7.out.1.other (by have := H4.out.2.1; omega) _ _
  have HGT := Lib.hid (getLe_b (x := ct) (hra.kept (fun k hk _ _ => hs8.below.block k hk)) (by omega) (by omega))
  have H8 := Lib.hid (And.intro hs8 hr8)
  have k20 : w8.cell? ⟨b2, 0, none⟩ = some (.int .i64 0) := cell_of hs8.two rfl
  have z20 : w8.frozen? ⟨b2, 0, none⟩ = false := free_of hs8.two _
  clear hra hw8 hr8 hs8 HPT H7
  go_wp2_with fail
  refine HGT.out.mono ?_
  rintro e w8' ⟨rfl, hw8⟩
  obtain rfl := hw8.symm
  clear hw8 HGT
  have f1 : decide ((9007199254740992 : Int) < (bn : Int)) = false := decide_eq_false (by omega)
  have f2 : decide ((ct : Int) < 1) = false := decide_eq_false (by omega)
  have f3 : decide ((256 : Int) < (ct : Int)) = false := decide_eq_false (by omega)
  have f4 : decide ((9007199254740992 : Int) < (bn : Int) + (ct : Int) - 1) = false := decide_eq_false (by omega)
  have f5 : decide ((9007199254740992 : Nat) < bn) = false := decide_eq_false (by omega)
  have f6 : decide (ct < 1) = false := decide_eq_false (by omega)
  have f7 : decide (256 < ct) = false := decide_eq_false (by omega)
  go_upto_region 20 with fail
  obtain ⟨w9, hw9⟩ : ∃ W : World, W = w8.setCell ⟨b2, 0, none⟩ (.int .i64 (bn : Int)) := ⟨_, rfl⟩
  have hs9 : BtI w w9 b2 b3 b4 (.int .i64 (bn : Int)) (.slice none 0 0) (.int .i64 (sz : Int)) (.int .i64 0) := by rw [hw9]; exact H8.out.1.put20 _
  have hr9 : RestI w w9 b6 F.length F := by rw [hw9]; exact H8.out.2.only (only_setCell (fun k => k = b2) _ b2 0 _ rfl) (by have := H4.out.2.1; have := H8.out.1.b24; omega)
  have hcv : IntKind.i64.wrap (bn : Int) = (bn : Int) := by rw [IntKind.wrap_i64]; omega
  have H9 := Lib.hid (And.intro hs9 hr9)
  go_upto_region 21 with fail
  rw [← hw9]
  clear hw9 hs9 hr9 hcv H8 H5 k20 z20
  go_wp2_with fail
  go_loopw [84] (fun s wr => ∃ (i m : Nat) (oaR : Option Addr) (cR : Nat) (xs : List RcV), s = .int .u64 (i : Int) ∧ i ≤ ct ∧ Hid (BtI w wr b2 b3 b4 (.int .i64 (bn : Int)) (.slice oaR i cR) (.int .i64 (sz : Int)) (.int .i64 0) ∧ NewR w wr (.slice oaR i cR) xs ∧ xs.map (·.r) = l.take i ∧ RestI w wr b6 m ((l.drop i).flatMap Rc.bytes))) (fun s _ => ct - (intOf s).toNat)
  case atStart => exact ⟨0, F.length, none, 0, [], rfl, by omega, Lib.hid ⟨H9.out.1, NewR.nil H9.out.1.below, rfl, by rw [List.drop_zero, HCT.out.2]; exact H9.out.2⟩⟩
  case round =>
    obtain ⟨i, m, oaR, cR, xs, rfl, hi, HI⟩ := hrel
    by_cases hlt : i < ct
    · have hil : i < l.length := by rw [HCT.out.1]; exact hlt
      have hfd := flat_drop hil
      have hok := HE.out.2.2.2.2.1.ok l[i] (List.getElem_mem hil)
      have htk : l.take (i + 1) = l.take i ++ [l[i]] := List.take_succ_eq_append_getElem hil
      obtain ⟨r, hr⟩ : ∃ r, l[i] = r := ⟨_, rfl⟩
      rw [hr] at hfd hok htk
      unfold Rc.ok at hok
      simp only [Bool.and_eq_true, decide_eq_true_eq] at hok
      obtain ⟨tn, htn⟩ : ∃ tn : Nat, r.time = (tn : Int) := ⟨r.time.toNat, by omega⟩
      obtain ⟨rk, hrk⟩ : ∃ x, r.key.length = x := ⟨_, rfl⟩
      obtain ⟨rv, hrv⟩ : ∃ x, r.val.length = x := ⟨_, rfl⟩
      obtain ⟨R, hR⟩ : ∃ x, (l.drop (i + 1)).flatMap Rc.bytes = x := ⟨_, rfl⟩
      have hby : r.bytes = leT tn 8 ++ (leT rk 2 ++ (leT rv 2 ++ (r.key ++ r.val))) := by
        unfold Rc.bytes
        rw [htn, hrk, hrv, Int.toNat_natCast]
        simp only [List.append_assoc]
      rw [hR, hby] at hfd
      have hrs := HI.out.2.2.2
      rw [hfd] at hrs
      have hm : m = 8 + (2 + (2 + (rk + (rv + R.length)))) := by
        rw [← hrs.len]
        simp only [List.length_append, leT_len, hrk, hrv]
        omega
      rw [hm] at hrs
      simp only [List.append_assoc] at hrs
      rw [htn] at hok
      rw [hrk, hrv] at hok
      have hx6 := hrs.box
      have HRC := Lib.hid (And.intro htk (And.intro htn (And.intro hrk (And.intro hrv hR))))
      have HPA := Lib.hid (hrs.part (leT_len 8 tn) HI.out.1.below)
      have htnb : tn ≤ 9007199254740992 := by omega
      have hrkb : rk ≤ 256 := by omega
      have hrvb : rv ≤ 4096 := by omega
      have hb6l : b6 < wr.heap.size := by
        obtain ⟨o, c, hx, _⟩ := hx6
        exact (Array.getElem?_eq_some_iff.1 hx).1
      have hlow6 : w.heap.size ≤ b6 := by have := H4.out.2.1; have := HI.out.1.low; have := HI.out.1.b24; omega
      have HB6 := Lib.hid (And.intro (fun (W : World) (ho : Only (fun k => k = b6) wr W) => HI.out.1.below.trans (ho.below (fun i _ e => by omega) HI.out.1.below.size)) hb6l)
      clear hil hfd hok htk hr htn hrk hrv hR hby hrs hm hx6 hb6l hlow6
      go_wp2_with fail
      refine HPA.out.mono ?_
      rintro e v1 ⟨o1', c1', o2', c2', rfl, hra, hv1, hr1⟩
      have ho1 : Only (fun k => k = b6) wr v1 := by rw [hv1]; exact only_setCell _ _ _ _ _ rfl
      have hbw1 := HB6.out.1 v1 ho1
      have HG1 := Lib.hid (getLe_b (x := tn) (hra.kept (fun k hk _ _ => hbw1.block k hk)) (by omega) (by omega))
      have HPB := Lib.hid (hr1.part (leT_len 2 rk) hbw1)
      have HO1 := Lib.hid ho1
      clear hra hv1 hr1 ho1 hbw1 HPA
      go_wp2_with fail
      refine HG1.out.mono ?_
      rintro e v1' ⟨rfl, hv1⟩
      obtain rfl := hv1.symm
      clear hv1 HG1
      go_wp2_with fail
      refine HPB.out.mono ?_
      rintro e v2 ⟨o3', c3', o4', c4', rfl, hra, hv2, hr2⟩
      have ho2 : Only (fun k => k = b6) wr v2 := HO1.out.trans (by rw [hv2]; exact only_setCell _ _ _ _ _ rfl) (fun _ _ e => e)
      have hbw2 := HB6.out.1 v2 ho2
      have HG2 := Lib.hid (getLe_b (x := rk) (hra.kept (fun k hk _ _ => hbw2.block k hk)) (by omega) (by omega))
      have HPC := Lib.hid (hr2.part (leT_len 2 rv) hbw2)
      have HO2 := Lib.hid ho2
      clear hra hv2 hr2 ho2 hbw2 HPB HO1
      have hck : IntKind.i64.wrap (rk : Int) = (rk : Int) := by rw [IntKind.wrap_i64]; omega
      have hcv : IntKind.i64.wrap (rv : Int) = (rv : Int) := by rw [IntKind.wrap_i64]; omega
      have hct : IntKind.i64.wrap (tn : Int) = (tn : Int) := by rw [IntKind.wrap_i64]; omega
      go_wp2_with fail
      refine HG2.out.mono ?_
      rintro e v2' ⟨rfl, hv2⟩
      obtain rfl := hv2.symm
      clear hv2 HG2
      go_wp2_with fail
      refine HPC.out.mono ?_
      rintro e v3 ⟨o5', c5', o6', c6', rfl, hra, hv3, hr3⟩
      have ho3 : Only (fun k => k = b6) wr v3 := HO2.out.trans (by rw [hv3]; exact only_setCell _ _ _ _ _ rfl) (fun _ _ e => e)
      have hbw3 := HB6.out.1 v3 ho3
      have HG3 := Lib.hid (getLe_b (x := rv) (hra.kept (fun k hk _ _ => hbw3.block k hk)) (by omega) (by omega))
      have H3 := Lib.hid (And.intro ho3 hr3)
      clear hra hv3 hr3 ho3 hbw3 HPC HO2
      go_wp2_with fail
      refine HG3.out.mono ?_
      rintro e v3' ⟨rfl, hv3⟩
      obtain rfl := hv3.symm
      clear hv3 HG3
      have g1 : decide ((9007199254740992 : Int) < (tn : Int)) = false := decide_eq_false (by omega)
      have g2 : decide ((256 : Int) < (rk : Int)) = false := decide_eq_false (by omega)
      have g3 : decide ((4096 : Int) < (rv : Int)) = false := decide_eq_false (by omega)
      have g4 : decide ((9007199254740992 : Nat) < tn) = false := decide_eq_false (by omega)
      have g5 : decide (256 < rk) = false := decide_eq_false (by omega)
      have g6 : decide (4096 < rv) = false := decide_eq_false (by omega)
      go_upto_region 28 with fail
      obtain ⟨v4, hv4⟩ : ∃ W : World, W = v3.alloc (.cells #[.int .i64 (tn : Int), .slice none 0 0, .slice none 0 0] 150) := ⟨_, rfl⟩
      obtain ⟨b13, hb13⟩ : ∃ b, b = v3.heap.size := ⟨_, rfl⟩
      have h413 : v4.heap[b13]? = some (.cells #[.int .i64 (tn : Int), .slice none 0 0, .slice none 0 0] 150 (0, 0)) := by rw [hv4, hb13]; exact alloc_cells _ _ _
      have hb34 : Below v3.heap.size v3 v4 := by rw [hv4]; exact (Below.refl _ _).alloc (Nat.le_refl _) _
      have ho4 : Only (fun k => k = b6) wr v4 := H3.out.1.trans (Only.of_below hb34 (Nat.le_refl _) (fun _ => False)) (fun _ _ hf => hf.elim)
      have hr4 := H3.out.2.later hb34
      have hb13w : wr.heap.size ≤ b13 := by rw [hb13]; exact H3.out.1.size
      have hne13 : b13 ≠ b6 := by have := HB6.out.2; omega
      have hbw4 := HB6.out.1 v4 ho4
      have HPD := Lib.hid (hr4.part (a := r.key) HRC.out.2.2.1 hbw4)
      have H4' := Lib.hid (And.intro h413 (And.intro ho4 (And.intro hb13w hne13)))
      rw [← hv4, ← hb13]
      clear hv4 hb13 h413 hb34 ho4 hr4 hb13w hne13 hbw4 H3
      go_wp2_with fail
      refine HPD.out.mono ?_
      rintro e v5 ⟨o7', c7', o8', c8', rfl, hra, hv5, hr5⟩
      have ho5 : Only (fun k => k = b6) wr v5 := H4'.out.2.1.trans (by rw [hv5]; exact only_setCell _ _ _ _ _ rfl) (fun _ _ e => e)
      have hbw5 := HB6.out.1 v5 ho5
      have h513 : v5.heap[b13]? = some (.cells #[.int .i64 (tn : Int), .slice none 0 0, .slice none 0 0] 150 (0, 0)) := by rw [hv5]; exact (Below.heap_setCell _ _ _ _ H4'.out.2.2.2).trans H4'.out.1
      have HCL := Lib.hid (cloneR_b HRC.out.2.2.1 (hra.kept (fun k hk _ _ => hbw5.block k hk)) (by omega))
      have H5' := Lib.hid (And.intro h513 (And.intro ho5 hr5))
      clear hra hv5 hr5 ho5 hbw5 h513 HPD
      go_wp2_with fail
      refine HCL.out.mono ?_
      rintro e v6 ⟨kv, rfl, hkv⟩
      obtain ⟨ko, kc, hke⟩ := hkv.shape
      rw [HRC.out.2.2.1] at hke
      subst hke
      have h613 := (hkv.below.block b13 (Array.getElem?_eq_some_iff.1 H5'.out.1).1).trans H5'.out.1
      have y1 : v6.cell? ⟨b13, 1, none⟩ = some (.slice none 0 0) := cell_of h613 rfl
      have z1 : v6.frozen? ⟨b13, 1, none⟩ = false := free_of h613 _
      have ho6 : Only (fun k => k = b6) wr v6 := H5'.out.2.1.trans (Only.of_below hkv.below (Nat.le_refl _) (fun _ => False)) (fun _ _ hf => hf.elim)
      have hr6 := H5'.out.2.2.later hkv.below
      have hkl := (Array.getElem?_eq_some_iff.1 H5'.out.1).1
      have H6' := Lib.hid (And.intro h613 (And.intro ho6 (And.intro hr6 (And.intro hkv hkl))))
      clear h613 ho6 hr6 hkv hkl HCL
      go_upto_region 29 with fail
      obtain ⟨v7, hv7⟩ : ∃ W : World, W = v6.setCell ⟨b13, 1, none⟩ (.slice ko rk kc) := ⟨_, rfl⟩
      have h713 : v7.heap[b13]? = some (.cells #[.int .i64 (tn : Int), .slice ko rk kc, .slice none 0 0] 150 (0, 0)) := by rw [hv7]; exact heap_setCell_here _ H6'.out.1
      have hoS : Only (fun k => k = b13) v6 v7 := by rw [hv7]; exact only_setCell _ _ _ _ _ rfl
      have ho7 : Only (fun k => k = b6) wr v7 := H6'.out.2.1.trans hoS (fun i hi e => by have := H4'.out.2.2.1; omega)
      have hr7 := H6'.out.2.2.1.only hoS (fun e => H4'.out.2.2.2 e.symm)
      have hk7 : rowAt v7 5 1 (.slice ko rk kc) rk (byteCells r.key) := by
        have h1 := H6'.out.2.2.2.1.row
        rw [HRC.out.2.2.1] at h1
        exact h1.kept (fun k hk => hoS.block k (h1.lt k hk) (fun e => by have := H6'.out.2.2.2.1.own k hk; have := H6'.out.2.2.2.2; omega))
      have hbw7 := HB6.out.1 v7 ho7
      have HPE := Lib.hid (hr7.part (a := r.val) HRC.out.2.2.2.1 hbw7)
      have hkw : ∀ k, (Value.slice ko rk kc).ownBlock = some k → b13 < k ∧ b6 < k ∧ w.heap.size ≤ k := fun k hk => by
        have h1 := H6'.out.2.2.2.1.own k hk
        have h2 := H6'.out.2.2.2.2
        have h3 := H4'.out.2.2.1
        have h4 := HB6.out.2
        have h5 := HI.out.1.below.size
        omega
      rw [← hv7]
      have H7' := Lib.hid (And.intro h713 (And.intro ho7 (And.intro hk7 hkw)))
      clear hv7 h713 hoS ho7 hr7 hk7 hbw7 hkw y1 z1 H6' H5'
      go_wp2_with fail
      refine HPE.out.mono ?_
      rintro e v8 ⟨o9', c9', o10', c10', rfl, hra, hv8, hr8⟩
      have hoP : Only (fun k => k = b6) v7 v8 := by rw [hv8]; exact only_setCell _ _ _ _ _ rfl
      have ho8 : Only (fun k => k = b6) wr v8 := H7'.out.2.1.trans hoP (fun _ _ e => e)
      have hbw8 := HB6.out.1 v8 ho8
      have h813 := (hoP.block b13 (Array.getElem?_eq_some_iff.1 H7'.out.1).1 H4'.out.2.2.2).trans H7'.out.1
      have hk8 := H7'.out.2.2.1.kept (fun k hk => hoP.block k (H7'.out.2.2.1.lt k hk) (fun e => by have := (H7'.out.2.2.2 k hk).2.1; omega))
      have HCL := Lib.hid (cloneR_b HRC.out.2.2.2.1 (hra.kept (fun k hk _ _ => hbw8.block k hk)) (by omega))
      have H8' := Lib.hid (And.intro h813 (And.intro ho8 (And.intro hr8 hk8)))
      clear hra hv8 hr8 hoP ho8 hbw8 h813 hk8 HPE
      go_wp2_with fail
      refine HCL.out.mono ?_
      rintro e v9 ⟨vv, rfl, hvv⟩
      obtain ⟨vo, vc, hve⟩ := hvv.shape
      rw [HRC.out.2.2.2.1] at hve
      subst hve
      have h913 := (hvv.below.block b13 (Array.getElem?_eq_some_iff.1 H8'.out.1).1).trans H8'.out.1
      have y2 : v9.cell? ⟨b13, 2, none⟩ = some (.slice none 0 0) := cell_of h913 rfl
      have z2 : v9.frozen? ⟨b13, 2, none⟩ = false := free_of h913 _
      have ho9 : Only (fun k => k = b6) wr v9 := H8'.out.2.1.trans (Only.of_below hvv.below (Nat.le_refl _) (fun _ => False)) (fun _ _ hf => hf.elim)
      have hr9 := H8'.out.2.2.1.later hvv.below
      have hk9 := H8'.out.2.2.2.kept (fun k hk => hvv.below.block k (H8'.out.2.2.2.lt k hk))
      have hvl := (Array.getElem?_eq_some_iff.1 H8'.out.1).1
      have hv9 := hvv.row
      rw [HRC.out.2.2.2.1] at hv9
      have hvo : ∀ k, (Value.slice vo rv vc).ownBlock = some k → b13 < k ∧ w.heap.size ≤ k := fun k hk => by
        have h1 := hvv.own k hk
        have h3 := H4'.out.2.2.1
        have h5 := HI.out.1.below.size
        omega
      have H9' := Lib.hid (And.intro h913 (And.intro ho9 (And.intro hr9 (And.intro hk9 (And.intro hv9 hvo)))))
      clear h913 ho9 hr9 hk9 hvv hvl hv9 hvo HCL H8'
      go_upto_region 30 with fail
      obtain ⟨v10, hv10⟩ : ∃ W : World, W = v9.setCell ⟨b13, 2, none⟩ (.slice vo rv vc) := ⟨_, rfl⟩
      have h1013 : v10.heap[b13]? = some (.cells #[.int .i64 (tn : Int), .slice ko rk kc, .slice vo rv vc] 150 (0, 0)) := by rw [hv10]; exact heap_setCell_here _ H9'.out.1
      have hoS : Only (fun k => k = b13) v9 v10 := by rw [hv10]; exact only_setCell _ _ _ _ _ rfl
      have ho10 : Only (fun k => k = b6) wr v10 := H9'.out.2.1.trans hoS (fun i hi e => by have := H4'.out.2.2.1; omega)
      have hr10 := H9'.out.2.2.1.only hoS (fun e => H4'.out.2.2.2 e.symm)
      have hk10 := H9'.out.2.2.2.1.kept (fun k hk => hoS.block k (H9'.out.2.2.2.1.lt k hk) (fun e => by have := (H7'.out.2.2.2 k hk).1; omega))
      have hv10' := H9'.out.2.2.2.2.1.kept (fun k hk => hoS.block k (H9'.out.2.2.2.2.1.lt k hk) (fun e => by have := (H9'.out.2.2.2.2.2 k hk).1; omega))
      have hbw10 := HB6.out.1 v10 ho10
      have hs10 := HI.out.1.only ho10 (by have h1 := HI.out.1.b23; have h2 := HI.out.1.b24; have h3 := H4.out.2.1; omega) hbw10
      obtain ⟨o6x, c6x, hx6, _⟩ := HI.out.2.2.2.box
      obtain ⟨o6y, c6y, hx6', _⟩ := hr10.box
      have hn10 := HI.out.2.1.only ho10 hbw10 (fun k e => by subst e; exact HI.out.2.1.apart hx6 (by decide) (by decide))
      have y3 : v10.cell? ⟨b13, 0, none⟩ = some (.int .i64 (tn : Int)) := cell_of h1013 rfl
      have y4 : v10.cell? ⟨b13, 1, none⟩ = some (.slice ko rk kc) := cell_of h1013 rfl
      have y5 : v10.cell? ⟨b13, 2, none⟩ = some (.slice vo rv vc) := cell_of h1013 rfl
      have y6 : v10.cell? ⟨b2, 1, none⟩ = some (.slice oaR i cR) := cell_of hs10.two rfl
      rw [← hv10]
      have HY : Hid (NewR w v10 (.slice oaR i cR) xs ∧ rowAt v10 5 1 (.slice ko rk kc) r.key.length (byteCells r.key) ∧ rowAt v10 5 1 (.slice vo rv vc) r.val.length (byteCells r.val)) := Lib.hid ⟨hn10, by rw [HRC.out.2.2.1]; exact hk10, by rw [HRC.out.2.2.2.1]; exact hv10'⟩
      have H10 := Lib.hid (And.intro hs10 hr10)
      have hone : ∀ v ∈ recCells ⟨r, .slice ko rk kc, .slice vo rv vc⟩, v.oneCell' = true := fun v hv => by
        simp only [recCells, List.mem_cons, List.not_mem_nil, or_false] at hv
        rcases hv with rfl | rfl | rfl <;> rfl
      have hcs : (#[.int .i64 (tn : Int), .slice ko rk kc, .slice vo rv vc] : Array Value) = (recCells ⟨r, .slice ko rk kc, .slice vo rv vc⟩).toArray := by
        unfold recCells
        rw [HRC.out.2.1]
      have HON := Lib.hid (And.intro hone hcs)
      have HVO := Lib.hid (fun k hk => (H9'.out.2.2.2.2.2 k hk).2)
      have HNB := Lib.hid (And.intro (HY.out.1.row.notB hs10.two (by decide)) (And.intro (HY.out.1.row.notB hs10.three (by decide)) (And.intro (HY.out.1.row.notB hs10.four (by decide)) (HY.out.1.apart hx6' (by decide) (by decide)).1)))
      clear hv10 h1013 hoS ho10 hr10 hk10 hv10' hbw10 hs10 hx6 hx6' hn10 y2 z2 hone hcs H9'
      go_wp2_with (at_builtin; refine wpList_rec1 rfl (.tmp 118) (.tmp 120) rfl HY.out.1 (by omega) (y := ⟨r, .slice ko rk kc, .slice vo rv vc⟩) HON.out.2 HON.out.1 ⟨HY.out.2.1, HY.out.2.2, fun k hk => (H7'.out.2.2.2 k hk).2.2, fun k hk => HVO.out k hk⟩ rfl rfl ?_; intro oa3 c3 w3 HR3 HO3; have hx2 := (HO3.out.block b2 (Array.getElem?_eq_some_iff.1 H10.out.1.two).1 HNB.out.1).trans H10.out.1.two; have y7 : w3.cell? ⟨b2, 1, none⟩ = some (.slice oaR i cR) := cell_of hx2 rfl; have z7 : w3.frozen? ⟨b2, 1, none⟩ = false := free_of hx2 _; clear hx2)
      have hb3w : Below w.heap.size w w3 := HR3.out.below
      have hs3 := H10.out.1.only HO3.out ⟨HNB.out.1, HNB.out.2.1, HNB.out.2.2.1⟩ hb3w
      have hr3 := H10.out.2.only HO3.out HNB.out.2.2.2
      have hoZ : Only (fun k => k = b2) w3 (w3.setCell ⟨b2, 1, none⟩ (.slice oa3 (i + 1) c3)) := only_setCell _ _ _ _ _ rfl
      have hs4 := hs3.put21 (.slice oa3 (i + 1) c3)
      refine ⟨⟨i + 1, R.length, oa3, c3, xs ++ [⟨r, .slice ko rk kc, .slice vo rv vc⟩], by simp, by omega, Lib.hid ⟨hs4, HR3.out.only hoZ hs4.below (fun k e => by subst e; exact HR3.out.apart hs3.two (by decide) (by decide)), ?_, ?_⟩⟩, by simp [intOf]; omega⟩
      · rw [List.map_append, HI.out.2.2.1, HRC.out.1]
        rfl
      · rw [HRC.out.2.2.2.2]
        exact (show RestI w w3 b6 R.length R from hr3).only hoZ (fun e => by have := H4.out.2.1; have := hs3.b24; omega)
    · obtain rfl : i = ct := by omega
      have hdr : l.drop i = [] := List.drop_of_length_le (by rw [HCT.out.1]; exact Nat.le_refl _)
      have htk : l.take i = l := List.take_of_length_le (by rw [HCT.out.1]; exact Nat.le_refl _)
      have hrs := HI.out.2.2.2
      have hmr := HI.out.2.2.1
      rw [hdr] at hrs
      rw [htk] at hmr
      have hm0 : m = 0 := hrs.len.symm
      subst hm0
      obtain ⟨ox, cx, hx6, _⟩ := hrs.box
      have k6 : wr.cell? ⟨b6, 0, none⟩ = some (.slice ox 0 cx) := cell_of hx6 rfl
      have hs := HI.out.1
      have k20 : wr.cell? ⟨b2, 0, none⟩ = some (.int .i64 (bn : Int)) := cell_of hs.two rfl
      have k21 : wr.cell? ⟨b2, 1, none⟩ = some (.slice oaR i cR) := cell_of hs.two rfl
      have z20 : wr.frozen? ⟨b2, 0, none⟩ = false := free_of hs.two _
      have z21 : wr.frozen? ⟨b2, 1, none⟩ = false := free_of hs.two _
      have k3 : wr.cell? ⟨b3, 0, none⟩ = some (.int .i64 (sz : Int)) := cell_of hs.three rfl
      have z3 : wr.frozen? ⟨b3, 0, none⟩ = false := free_of hs.three _
      have k4 : wr.cell? ⟨b4, 0, none⟩ = some (.int .i64 0) := cell_of hs.four rfl
      have z4 : wr.frozen? ⟨b4, 0, none⟩ = false := free_of hs.four _
      have n32 : b3 ≠ b2 := by have := hs.b23; omega
      have n42 : b4 ≠ b2 := by have := hs.b24; omega
      have n43 : b4 ≠ b3 := by have := hs.b23; have := hs.b24; omega
      have n23 := n32.symm
      have n24 := n42.symm
      have n34 := n43.symm
      have HM := Lib.hid (And.intro hmr HI.out.2.1)
      have HSZ := Lib.hid HE.out.1
      have HB := Lib.hid hs
      clear hdr htk hrs hmr hx6 hs HI hlt hi
      go_upto_region 34 with fail
      go_region
      obtain ⟨wz, hwz⟩ : ∃ W : World, W = ((((wr.setCell ⟨b2, 0, none⟩ (.int .i64 (bn : Int))).setCell ⟨b2, 1, none⟩ (.slice oaR i cR)).setCell ⟨b3, 0, none⟩ (.int .i64 (sz : Int))).setCell ⟨b4, 0, none⟩ (.int .i64 0)).drew := ⟨_, rfl⟩
      have hb1 := ((((HB.out.put20 (.int .i64 (bn : Int))).put21 (.slice oaR i cR)).put3 (.int .i64 (sz : Int))).put4 (.int .i64 0))
      have hbz : BtI w wz b2 b3 b4 (.int .i64 (bn : Int)) (.slice oaR i cR) (.int .i64 (sz : Int)) (.int .i64 0) := by
        rw [hwz]
        exact ⟨hb1.two, hb1.three, hb1.four, hb1.low, hb1.b23, hb1.b24, ⟨hb1.below.os, hb1.below.tape, hb1.below.output, hb1.below.size, hb1.below.block⟩⟩
      have hoz : Only (fun k => k = b2 ∨ k = b3 ∨ k = b4) wr wz := by
        have h2 := (((only_setCell (fun k => k = b2 ∨ k = b3 ∨ k = b4) wr b2 0 (.int .i64 (bn : Int)) (.inl rfl)).trans (only_setCell _ _ b2 1 (.slice oaR i cR) (.inl rfl)) (fun _ _ e => e)).trans (only_setCell _ _ b3 0 (.int .i64 (sz : Int)) (.inr (.inl rfl))) (fun _ _ e => e)).trans (only_setCell _ _ b4 0 (.int .i64 0) (.inr (.inr rfl))) (fun _ _ e => e)
        rw [hwz]
        exact ⟨h2.os, h2.tape, h2.output, h2.size, h2.block⟩
      have hnz := HM.out.2.only hoz hbz.below (fun k e => by
        rcases e with e | e | e
        · subst e; exact HM.out.2.apart HB.out.two (by decide) (by decide)
        · subst e; exact HM.out.2.apart HB.out.three (by decide) (by decide)
        · subst e; exact HM.out.2.apart HB.out.four (by decide) (by decide))
      have HZ := Lib.hid (And.intro hbz hnz)
      rw [← hwz]
      clear hwz hb1 hbz hoz hnz k6 k20 k21 z20 z21 k3 z3 k4 z4 n32 n42 n43 n23 n24 n34
      go_wp2_with fail
      refine leaves_cons (f := 190) (args := #[.pointer (some ⟨b2, 0, none⟩), .pointer (some ⟨b3, 0, none⟩), .pointer (some ⟨b4, 0, none⟩)]) (by simp) (by simp [go_sem]) ?_
      refine batchIdle_b.mono ?_
      rintro e u' wz' ⟨rfl, rfl, hwz⟩
      obtain rfl := hwz.symm
      have c20 := cell_of (i := 0) HZ.out.1.two rfl
      have c21 := cell_of (i := 1) HZ.out.1.two rfl
      have c3 := cell_of (i := 0) HZ.out.1.three rfl
      have c4 := cell_of (i := 0) HZ.out.1.four rfl
      refine ⟨batchV (bn : Int) (.slice oaR i cR) sz, ?_, ⟨_, xs, by rw [HSZ.out], HM.out.1, HZ.out.2⟩⟩
      simp [results, Tryz.results154, go_sem, c20, c21, c3, c4, batchV]
end Go.Proofs.YtlgcoaeddeiegaaGreat
