/- The texts Gj, Ld in one. -/
import Derived.Sort.BigQuietIn
import Derived.Test.YtmkjejngnahpeaaX2
import Derived.Test.YtmkjejngnahpeaaX3
import Derived.Test.YtmkjejngnahpeaaC4
/- A region that draws its order and only reads, inside a round of a range over a function. -/
namespace Go.Proofs.Ytmkjejngnahpeaa
open Go

def noDefer (o : Oper) : Bool := match o.op with | .defer _ => false | _ => true
theorem noDefer_spec {o : Oper} (h : noDefer o = true) : ∀ c, o.op ≠ .defer c := fun c e => by
  unfold noDefer at h
  rw [e] at h
  cases h
section
variable {F : Fence} {n : Nat} {P : Program} {ops : Array Oper} {md : Region.Mode} {C : World → Prop}
theorem wpIn_of_quiet_nd {o : Oper} {a : Act} {K : Act → Prop} {K' : Act → World → Prop} {Q' : Exit → Act → World → Prop} {w : World} (hnd : ∀ c, o.op ≠ .defer c) (hw : C w) (h : ∀ a w', C w' → K a → K' a w')
    (ha : o.askedIn F P a C) (hh : o.quietIn F n P a C K) : o.wpIn F n P a w K' Q' := by
  obtain ⟨v, h1, h2⟩ := hh
  have h3 := h1 w hw
  unfold Oper.quietAtIn at h3
  unfold Oper.wpIn
  refine ⟨ha w hw, ?_⟩
  rw [Oper.semAt_eq F.round _ _ hnd]
  generalize (execOp a.eval o).run P w = r at *
  cases r with
  | ok x w' =>
    cases x <;> simp only [Oper.quietUponIn] at h3 <;> simp only [Oper.uponIn]
    case value u =>
      obtain ⟨e1, e2⟩ := h3
      rw [e1, e2]
      exact h _ _ hw h2
    case skip =>
      obtain ⟨e1, e2⟩ := h3
      rw [e1, ← e2]
      exact h _ _ hw h2
    case enter f args =>
      obtain ⟨e1, hd, hc⟩ := h3
      rw [e1]
      exact ⟨hd, hc.mono fun e w'' ⟨he, hw''⟩ => by subst he; exact h _ _ hw'' h2⟩
  | halt x w' => simp only [Oper.quietUponIn] at h3
theorem wpOpIn_of_qOpIn_nd {i : Nat} {a : Act} {K : Act → Prop} {K' : Act → World → Prop} {Q' : Exit → Act → World → Prop} {w : World} (hnd : ∀ o ∈ ops, noDefer o = true) (hC : C w) (h : ∀ a w', C w' → K a → K' a w')
    (hh : qOpIn F n P ops C i K a) : wpOpIn F n P ops Q' i K' a w := by
  unfold qOpIn at hh
  unfold wpOpIn
  split
  · rename_i ho; simp only [ho] at hh; exact h _ _ hC hh
  · rename_i o ho
    simp only [ho] at hh
    obtain ⟨ha, hh⟩ := hh
    split
    · rename_i hw; simp only [hw, if_true] at hh; exact wpIn_of_quiet_nd (noDefer_spec (hnd o (Array.mem_of_getElem? ho))) hC h ha hh
    · rename_i hw; simp only [hw] at hh; exact ⟨ha w hC, h _ _ hC hh⟩
theorem wpAnyIn_of_quiet_nd {Q : Act → Prop} {Q' : Exit → Act → World → Prop} (hnd : ∀ o ∈ ops, noDefer o = true) (hQ : ∀ a w, C w → Q a → Q' .normal a w) : ∀ (fuel : Nat) (listed : Array Bool) (a : Act) (w : World), C w →
    wpAnyQIn F n P md ops C Q fuel listed a → wpAnyIn F n P md ops Q' fuel listed a w
  | 0, _, _, _, hw, h => ⟨h.1, hQ _ _ hw h.2⟩
  | fuel + 1, _, _, _, hw, h => ⟨fun h0 => hQ _ _ hw (h.1 h0), fun i hi => wpOpIn_of_qOpIn_nd hnd hw (fun a' w' hw' => wpAnyIn_of_quiet_nd hnd hQ fuel _ a' w' hw') (h.2 i hi)⟩
/-- one walk of the lexical order serves every order, in a round too, where no operation defers -/
theorem wpIn_region_quiet_nd {id : Nat} {Q : Exit → Act → World → Prop} {a : Act} {w : World} {l : List Oper} (hnd : l.all noDefer = true) (hm : P.follows .mixedOrders = true) (hB : Region.lexB .any l.toArray = true)
    (h : wpQuietIn F n P l.toArray (fun w' => ∃ n, w' = w.drewN n) (fun a' => ∀ w', (∃ n, w' = w.drewN n) → Q .normal a' w') l a) : (Code.region id l.toArray true).wpIn F n P Q a w := by
  simp only [Region.lexB, Bool.and_eq_true] at hB
  refine wpIn_region_any hm (wpAnyIn_of_quiet_nd (C := fun w' => ∃ n, w' = w.drewN n) (Q := fun a' => ∀ w', (∃ n, w' = w.drewN n) → Q .normal a' w') (fun o ho => List.all_eq_true.1 hnd o (by simpa using ho)) (fun _ w' hw' h => h w' hw') _ _ _ _ ⟨1, rfl⟩ ?_)
  have := wpAnyQIn_lex (F := F) (n := n) (C := fun w' => ∃ n, w' = w.drewN n) (md := .any) hB.1 l.toArray.toList 0 (Array.replicate l.toArray.size false) a (by simp) (by simpa using hB.2) (by simpa using h)
  simpa using this
end
end Go.Proofs.Ytmkjejngnahpeaa
/- law08: is: a disk has the document's files. -/
namespace Go.Proofs.Ytmkjejngnahpeaa
open Go Go.Maps Go.RowKit Go.Shelf Go.Sort
open Go.Proofs (encStr)
attribute [local go_sem] Oper.semAt_some

theorem wpIn_region_below_nd {F : Fence} {n : Nat} {P : Program} {id : Nat} {Q : Exit → Act → World → Prop} {a : Act} {w : World} {l : List Oper} (hnd : l.all noDefer = true) (hm : P.follows .mixedOrders = true) (hB : Region.lexB .any l.toArray = true)
    (h : wpQuietIn F n P l.toArray (fun w' => ∃ p : Regrown, w' = grow (redrawn w p.d) p.os) (fun a' => ∀ w', (∃ p : Regrown, w' = grow (redrawn w p.d) p.os) → Q .normal a' w') l a) : (Code.region id l.toArray true).wpIn F n P Q a w := by
  simp only [Region.lexB, Bool.and_eq_true] at hB
  refine wpIn_region_any hm (wpAnyIn_of_quiet_nd (C := fun w' => ∃ p : Regrown, w' = grow (redrawn w p.d) p.os) (Q := fun a' => ∀ w', (∃ p : Regrown, w' = grow (redrawn w p.d) p.os) → Q .normal a' w') (fun o ho => List.all_eq_true.1 hnd o (by simpa using ho)) (fun _ w' hw' h => h w' hw') _ _ _ _ ⟨⟨w.drawn + 1, #[]⟩, by rw [grow_empty]; rfl⟩ ?_)
  have := wpAnyQIn_lex (F := F) (n := n) (C := fun w' => ∃ p : Regrown, w' = grow (redrawn w p.d) p.os) (md := .any) hB.1 l.toArray.toList 0 (Array.replicate l.toArray.size false) a (by simp) (by simpa using hB.2) (by simpa using h)
  simpa using this
theorem read_size {d : Dk} {f : F0} (hf : d.find f.name = some f) (hok : nameOk f.name = true) : d.read f.name 0 (f.bytes.length : Int) = (f.bytes, 0) := by
  unfold Dk.read
  rw [if_neg (by rw [hok]; simp), hf]
  show (if _ then _ else _) = _
  rw [if_neg (by omega)]
  have e : min (f.bytes.length : Int).toNat (f.bytes.length - (0 : Int).toNat) = f.bytes.length := by
    show min f.bytes.length (f.bytes.length - 0) = _
    omega
  rw [e, Int.toNat_zero, List.drop_zero, List.take_length]
theorem wf_small {a : Int} (h0 : 0 ≤ a) (h1 : a ≤ 4611686018427387904) : (Lit.int .i64 a).wf = true := by
  have e1 : IntKind.i64.min = -9223372036854775808 := by decide
  have e2 : IntKind.i64.max = 9223372036854775807 := by decide
  simp only [Lit.wf, Bool.and_eq_true, decide_eq_true_eq]
  omega
/-- what stands at a round's head -/
structure IsI (w4 W : World) (b : Nat) (T : Nat → Prop) (j : Nat) : Prop where
  below : Below w4.heap.size w4 W
  box : W.heap[b]? = some (.cells #[.int .i64 j] 3 (0, 0))
  low : ∀ k, T k → b < k
  at' : b = w4.heap.size
theorem IsI.kept {w4 A B : World} {b j : Nat} {T X : Nat → Prop} (h : IsI w4 A b T j) (ho : Only X A B) (hX : ∀ k, X k → b < k) : IsI w4 B b T j :=
  ⟨h.below.trans (ho.below (fun i hi e => by have := hX i e; have := h.at'; omega) h.below.size), (ho.block _ (Array.getElem?_eq_some_iff.1 h.box).1 (fun e => by have := hX _ e; omega)).trans h.box, h.low, h.at'⟩
theorem IsI.later {w4 A B : World} {b j : Nat} {T : Nat → Prop} (h : IsI w4 A b T j) (hb : Below A.heap.size A B) : IsI w4 B b T j :=
  h.kept (Only.of_below hb (Nat.le_refl _) (fun _ => False)) (fun _ hf => hf.elim)
set_option maxRecDepth 100000 in
set_option maxHeartbeats 8000000 in
theorem is_b {w : World} {S : Nat → Prop} {q p : Nat} {d : Dk} (h : DiskAt w S q d) (hr : RfLite w p d.files) (ht : ∀ f ∈ d.files, f.there = true) :
    Calls Try.prog 84 #[.pointer (some ⟨q, 0, none⟩), .pointer (some ⟨p, 0, none⟩)] w fun e w' => e = .returned (.bool true) ∧ Below w.heap.size w w' := by
  obtain ⟨N, hN⟩ : ∃ N, d.files.length = N := ⟨_, rfl⟩
  have hsz := h.sizes
  rw [hN] at hsz
  obtain ⟨w1, hw1⟩ : ∃ V : World, V = ((w.alloc (.cells #[.pointer (some ⟨q, 0, none⟩)] 37)).alloc (.cells #[.pointer (some ⟨p, 0, none⟩)] 100)).alloc (.cells #[.bool false] 4) := ⟨_, rfl⟩
  obtain ⟨b2, hb2⟩ : ∃ b, b = w.heap.size := ⟨_, rfl⟩
  obtain ⟨b3, hb3⟩ : ∃ b, b = w.heap.size + 1 := ⟨_, rfl⟩
  obtain ⟨b4, hb4⟩ : ∃ b, b = w.heap.size + 1 + 1 := ⟨_, rfl⟩
  have hbl : Below w.heap.size w w1 := by rw [hw1]; exact (((Below.refl _ _).alloc (Nat.le_refl _) _).alloc (by simp) _).alloc (by simp; omega) _
  have h2 : w1.heap[b2]? = some (.cells #[.pointer (some ⟨q, 0, none⟩)] 37 (0, 0)) := by
    rw [hw1, hb2]
    exact (Below.heap_alloc _ _ _ (by simp; omega)).trans ((Below.heap_alloc _ _ _ (by simp)).trans (alloc_cells _ _ _))
  have h3 : w1.heap[b3]? = some (.cells #[.pointer (some ⟨p, 0, none⟩)] 100 (0, 0)) := by
    rw [hw1, hb3]
    have := alloc_cells (w.alloc (.cells #[.pointer (some ⟨q, 0, none⟩)] 37)) #[.pointer (some ⟨p, 0, none⟩)] 100
    rw [World.size_alloc] at this
    exact (Below.heap_alloc _ _ _ (by simp)).trans this
  have h4 : w1.heap[b4]? = some (.cells #[.bool false] 4 (0, 0)) := by
    rw [hw1, hb4]
    have := alloc_cells ((w.alloc (.cells #[.pointer (some ⟨q, 0, none⟩)] 37)).alloc (.cells #[.pointer (some ⟨p, 0, none⟩)] 100)) #[.bool false] 4
    rwa [World.size_alloc, World.size_alloc] at this
  have H := Lib.hid (And.intro (h.below hbl) (And.intro (hr.below hbl) (And.intro hbl (And.intro h2 (And.intro h3 h4)))))
  have HN := Lib.hid (And.intro hN (And.intro hsz (And.intro ht h.order_of)))
  have HB := Lib.hid (And.intro hb2 (And.intro hb3 hb4))
  have c2 : w1.cell? ⟨b2, 0, none⟩ = some (.pointer (some ⟨q, 0, none⟩)) := cell_of h2 rfl
  have HALL := Lib.hid (all_b (h.below hbl))
  clear h hr ht hN hsz hbl h2 h3 h4
  refine (callsIn_wide (n := 8)).1 ?_
  have f1 : Fence.wide.fn 41 := trivial
  have f2 : Fence.wide.fn 131 := trivial
  have f3 : Fence.wide.fn 42 := trivial
  refine callsIn_of_wp_marks Try.func84 rfl trivial ?_ rfl
  simp only [Try.ntmps84, List.size_toArray, List.length_cons, List.length_nil, Nat.reduceAdd, Nat.reduceSub, Array.replicate_succ, Array.replicate_zero, List.push_toArray, List.append_toArray, List.nil_append, List.cons_append]
  gi_upto_region 1 with fail
  rw [← hw1, ← hb4, ← hb3, ← hb2]
  clear hw1 hb2 hb3 hb4
  gi_wp2_with fail
  refine (callsIn_wide.2 HALL.out).mono ?_
  rintro e w4 ⟨vb, rfl, hsq, -, hb4⟩
  have H4 := Lib.hid (And.intro (H.out.1.below hb4) (And.intro (H.out.2.1.below hb4) (And.intro hsq (And.intro (H.out.2.2.1.trans (hb4.mono H.out.2.2.1.size)) hb4))))
  have HC4 := Lib.hid (And.intro ((hb4.block b3 (Array.getElem?_eq_some_iff.1 H.out.2.2.2.2.1).1).trans H.out.2.2.2.2.1) (And.intro ((hb4.block b4 (Array.getElem?_eq_some_iff.1 H.out.2.2.2.2.2).1).trans H.out.2.2.2.2.2) ((hb4.block b2 (Array.getElem?_eq_some_iff.1 H.out.2.2.2.1).1).trans H.out.2.2.2.1)))
  clear hsq hb4 c2 HALL
  have hnf : ∀ (W : World), (binOp .eql 74 (.func (.func 161) #[] #[.pointer (some ⟨vb, 0, none⟩)]) .nilFunc).run Try.prog W = .ok (.bool false) W := fun W => by kernel_rfl
  gi_wp2_with fail
  obtain ⟨w5, hw5⟩ : ∃ V : World, V = w4.alloc (.cells #[.int .i64 0] 3) := ⟨_, rfl⟩
  obtain ⟨b6, hb6⟩ : ∃ b, b = w4.heap.size := ⟨_, rfl⟩
  have h66 : w5.heap[b6]? = some (.cells #[.int .i64 (0 : Nat)] 3 (0, 0)) := by rw [hw5, hb6]; exact alloc_cells _ _ _
  have hb45 : Below w4.heap.size w4 w5 := by rw [hw5]; exact (Below.refl _ _).alloc (Nat.le_refl _) _
  have hs5 : w5.heap.size = b6 + 1 := by rw [hw5, hb6]; simp
  rw [← hw5, ← hb6]
  have hst := values_told 7 (by omega) vb w4 d.files H4.out.2.2.1 (by have := HN.out.1; have := HN.out.2.1.1; omega)
  have H5 := Lib.hid (And.intro h66 (And.intro hb45 (And.intro hs5 hb6)))
  clear hw5 hb6 h66 hb45 hs5 hnf
  refine wpIn_rangeFunc_told (n := 8) (α := F0) rfl (by omega) (gf := 161) (lb := #[.pointer (some ⟨vb, 0, none⟩)]) rfl trivial (enters_of Try.func161 (by kernel_rfl) rfl) hst H5.out.2.1 (fun _ => rfl)
    (fun T pre V => IsI w4 V b6 T pre.length) (fun _ _ _ _ => False) ?I ?Ix ?h0 ?round ?done ?stop
  case I =>
    rintro T pre A B hi ho
    rw [H5.out.2.2.1] at ho
    exact hi.kept ho (fun k hk => by rcases hk with hk | hk | hk; exact hi.low k hk; omega; omega)
  case Ix =>
    rintro c T pre A B hf ho
    exact hf
  case h0 =>
    intro T W1 hb hsz hT
    rw [H5.out.2.2.1] at hT
    exact ⟨H5.out.2.1.trans (hb.mono H5.out.2.1.size), (hb.block b6 (Array.getElem?_eq_some_iff.1 H5.out.1).1).trans H5.out.1, fun k hk => by have := (hT k hk).1; omega, H5.out.2.2.2⟩
  case stop =>
    rintro T c0 pre V hS hf hD
    exact hf.elim
  case done =>
    rintro T xs V hS hi hD
    have hS' : xs = d.files := hS
    subst hS'
    have hi' : IsI w4 V b6 T N := by rw [← HN.out.1]; exact hi
    obtain ⟨rv, fv, st, hh, hrow⟩ := H4.out.2.1.below hi'.below
    rw [HN.out.1] at hrow
    obtain ⟨oa, c, rfl, hnc⟩ := hrow.shape
    have h4v := (hi'.below.block b4 (Array.getElem?_eq_some_iff.1 HC4.out.2.1).1).trans HC4.out.2.1
    have k6 : V.cell? ⟨b6, 0, none⟩ = some (.int .i64 N) := cell_of hi'.box rfl
    have k3 : V.cell? ⟨b3, 0, none⟩ = some (.pointer (some ⟨p, 0, none⟩)) := cell_of ((hi'.below.block b3 (Array.getElem?_eq_some_iff.1 HC4.out.1).1).trans HC4.out.1) rfl
    have kp : V.cell? ⟨p, 0, none⟩ = some (.slice oa N c) := cell_of hh rfl
    have z4 : V.frozen? ⟨b4, 0, none⟩ = false := free_of h4v _
    have k4 : V.cell? ⟨b4, 0, none⟩ = some (.bool false) := cell_of h4v rfl
    have HV := Lib.hid (And.intro h4v (And.intro (H4.out.2.2.2.1.trans (hi'.below.mono H4.out.2.2.2.1.size)) hD))
    clear hS hi hi' hh hrow hnc h4v hD hst
    gi_upto_region 13 with fail
    gi_cut [63] from 57 (fun _ wx => wx = V.drew.setCell ⟨b4, 0, none⟩ (.bool true))
    case first =>
      refine wpIn_wide.2 (wp_only ?_)
      go_region
      all_goals
        go_wp2_with fail
        go_meet
        rfl
    case rest =>
      subst hcut
      clear k6 k3 kp z4 k4
      obtain ⟨V2, hV2⟩ : ∃ V2, V2 = V.drew := ⟨_, rfl⟩
      have hd0 : Below V.heap.size V V2 := by rw [hV2]; exact ⟨rfl, rfl, rfl, Nat.le_refl _, fun _ _ => rfl⟩
      have hm2 := (hd0.block _ (Array.getElem?_eq_some_iff.1 HV.out.2.2).1).trans HV.out.2.2
      have hr2 := (hd0.block _ (Array.getElem?_eq_some_iff.1 HV.out.1).1).trans HV.out.1
      have hbw := HV.out.2.1.trans (hd0.mono HV.out.2.1.size)
      rw [H5.out.2.2.1] at hm2
      have HE := Lib.hid (And.intro hr2 (And.intro hm2 hbw))
      rw [← hV2]
      clear hV2 hd0 hm2 hr2 hbw
      gi_wp2_with fail
      have hm := (KeepsOthers.setCell V2 ⟨b4, 0, none⟩ (.bool true)).same (b6 + 1) _ HE.out.2.1 rfl
      have hr3 : (V2.setCell ⟨b4, 0, none⟩ (.bool true)).heap[b4]? = some (.cells #[.bool true] 4 (0, 0)) := heap_setCell_here _ HE.out.1
      have hg := grownBy_putObj' (V2.setCell ⟨b4, 0, none⟩ (.bool true)) (b6 + 1) (.deferred none)
      have hr4 := (hg.block b4 (Array.getElem?_eq_some_iff.1 hr3).1 (fun e => by
        simp only [Option.some.injEq] at e
        rw [← e, hr3] at hm
        cases hm)).trans hr3
      have hcr := cell_of (i := 0) (v := .bool true) hr4 rfl
      have hbz : Below w.heap.size w (V2.setCell ⟨b4, 0, none⟩ (.bool true)) := HE.out.2.2.setCell (p := ⟨b4, 0, none⟩) (by show w.heap.size ≤ b4; have := HB.out; omega) _
      have hbz2 := hbz.grown hg hbz.size (fun k e => by
        simp only [Option.some.injEq] at e
        have h1 := H4.out.2.2.2.1.size
        have h4 := H5.out.2.2.2
        omega)
      rw [H5.out.2.2.1]
      refine ⟨by simp, .inl ⟨_, _, rfl, run_takeDeferred hm, ?_⟩⟩
      exact ⟨.bool true, by simp [results, Try.results84, go_sem, hcr], rfl, hbz2⟩
  case round =>
    rintro T pre x Wp V hT hrec hdef hip hop hszp hgv hlt K hK
    rw [H5.out.2.2.1] at hT hrec hdef hK hszp
    obtain ⟨j, hj⟩ : ∃ j, pre.length = j := ⟨_, rfl⟩
    have hgv' : d.files[pre.length]? = some x := hgv
    rw [hj] at hgv' hip hlt
    obtain ⟨hjl, hjx⟩ := List.getElem?_eq_some_iff.1 hgv'
    have hxm : x ∈ d.files := by rw [← hjx]; exact List.getElem_mem _
    obtain ⟨a0, ha0⟩ : ∃ a : ByteArray, a = ⟨x.name.toArray⟩ := ⟨_, rfl⟩
    obtain ⟨s1, hs1⟩ : ∃ a : ByteArray, a = ⟨x.bytes.toArray⟩ := ⟨_, rfl⟩
    obtain ⟨a1, ha1⟩ : ∃ a : Int, a = (x.bytes.length : Int) := ⟨_, rfl⟩
    obtain ⟨a2, ha2⟩ : ∃ a : Int, a = (x.lasts : Int) := ⟨_, rfl⟩
    obtain ⟨a3, ha3⟩ : ∃ a, a = x.there := ⟨_, rfl⟩
    obtain ⟨a4, ha4⟩ : ∃ a, a = x.named := ⟨_, rfl⟩
    have hz := HN.out.2.1.2 x hxm
    have hnm := HN.out.2.2.2.2 x hxm
    have hsn : a0.size ≤ maxLen := by rw [ha0]; exact name_len hnm
    have hs1z : (s1.size : Int) = a1 := by rw [hs1, ha1]; rfl
    have hfe := file_eq a0 a1 a2 a3 a4 hsn (by rw [ha1]; exact wf_small (by omega) (by omega)) (by rw [ha2]; exact wf_small (by omega) (by omega))
    have hread : d.read a0.data.toList 0 a1 = (x.bytes, 0) := by
      have hf := findF_mem HN.out.2.2.2.1 hxm (HN.out.2.2.1 x hxm) d.fates d.steps
      have hok : (⟨x.name.toArray⟩ : ByteArray).data.toList = x.name := rfl
      rw [ha0, ha1, hok]
      exact read_size hf hnm
    have hfc : encF x = #[.agg #[.string a0, .int .i64 a1, .int .i64 a2, .bool a3, .bool a4]] := by
      unfold encF fileV
      rw [ha0, ha1, ha2, ha3, ha4]
    have hrf : rfFile x = [.string a0, .string s1, .int .i64 a2, .bool a3, .bool a4] := by
      unfold rfFile
      rw [ha0, hs1, ha2, ha3, ha4]
    rw [hfc]
    obtain ⟨V', hV'⟩ : ∃ V', V' = V.alloc (.cells #[.string a0, .int .i64 a1, .int .i64 a2, .bool a3, .bool a4] 78) := ⟨_, rfl⟩
    obtain ⟨B, hB⟩ : ∃ b, b = V.heap.size := ⟨_, rfl⟩
    have hbV : Below V.heap.size V V' := by rw [hV']; exact (Below.refl _ _).alloc (Nat.le_refl _) _
    have hBx : V'.heap[B]? = some (.cells #[.string a0, .int .i64 a1, .int .i64 a2, .bool a3, .bool a4] 78 (0, 0)) := by rw [hV', hB]; exact alloc_cells _ _ _
    have hVl : b6 + 2 < V.heap.size := by
      obtain ⟨r, hr⟩ := hrec
      exact (Array.getElem?_eq_some_iff.1 hr).1
    have HK := Lib.hid hK
    have HI := Lib.hid hip
    have HOP := Lib.hid (And.intro hop (And.intro hszp (And.intro (fun k hk => (hT k hk).1) hVl)))
    have HVB := Lib.hid (And.intro hbV (And.intro hBx hB))
    have HX := Lib.hid (And.intro (show ∃ h : j < d.files.length, d.files[j] = x from ⟨hjl, hjx⟩) (And.intro hrf (And.intro hj hread)))
    have HZ := Lib.hid (And.intro hsn (And.intro hs1z (And.intro ha1 (And.intro hz hs1))))
    have HFE := Lib.hid hfe
    clear hT hrec hdef hip hop hszp hgv hgv' hlt hK hjl hjx hxm ha0 hs1 ha1 ha2 ha3 ha4 hz hnm hsn hs1z hfe hread hfc hrf hbV hBx hVl hj hst
    gi_wp2_with fail
    rw [← hV', ← hB]
    clear hV' hB
    refine HK.out _ _ (KeptR.of HVB.out.1) ?_
    intro W2 ho hr2
    have hopV : Only T Wp V' := HOP.out.1.trans (Only.of_below HVB.out.1 (Nat.le_refl _) (fun _ => False)) (fun _ _ hf => hf.elim)
    have hop2 : Only (fun k => T k ∨ k = b6 + 2) Wp W2 := (hopV.mono (fun _ _ h => .inl h)).trans (ho.mono (fun k _ h => .inr h)) (fun _ _ h => h)
    have hi2 : IsI w4 W2 b6 T j := HI.out.kept hop2 (fun k hk => by rcases hk with hk | hk; (have := HOP.out.2.2.1 k hk; omega); omega)
    have hBV := HVB.out.2.2
    have hVl := HOP.out.2.2.2
    have hkb : W2.heap[B]? = some (.cells #[.string a0, .int .i64 a1, .int .i64 a2, .bool a3, .bool a4] 78 (0, 0)) := (ho.block B (Array.getElem?_eq_some_iff.1 HVB.out.2.1).1 (fun e => by omega)).trans HVB.out.2.1
    obtain ⟨rv, fv, st, hh, hrow⟩ := H4.out.2.1.below hi2.below
    rw [HN.out.1] at hrow
    obtain ⟨oa, c, rfl, hnc⟩ := hrow.shape
    obtain ⟨hjl, hjx⟩ := HX.out.1
    have hjN : j < N := by have := HN.out.1; omega
    obtain ⟨g, off, rfl⟩ := hrow.addr (by omega)
    have hN4 := HN.out.2.1.1
    have hcells : ∀ i, i < 5 → ∀ u, [.string a0, .string s1, .int .i64 a2, .bool a3, .bool a4][i]? = some u → W2.cell? ⟨g, off + j * 5 + i, none⟩ = some u := fun i hi u hu => rf_cell hrow hjl hi (by rw [hjx, HX.out.2.1]; exact hu)
    have k6 := cell_regrown (cell_of hi2.box rfl : W2.cell? ⟨b6, 0, none⟩ = some (.int .i64 j))
    have k3 := cell_regrown (cell_of ((hi2.below.block b3 (Array.getElem?_eq_some_iff.1 HC4.out.1).1).trans HC4.out.1) rfl : W2.cell? ⟨b3, 0, none⟩ = some (.pointer (some ⟨p, 0, none⟩)))
    have kp := cell_regrown (cell_of hh rfl : W2.cell? ⟨p, 0, none⟩ = some (.slice (some ⟨g, off, none⟩) N c))
    have g0 := cell_regrown (hcells 0 (by omega) _ rfl)
    have g1 := cell_regrown (hcells 1 (by omega) _ rfl)
    have g2 := cell_regrown (hcells 2 (by omega) _ rfl)
    have g3 := cell_regrown (hcells 3 (by omega) _ rfl)
    have g4 := cell_regrown (hcells 4 (by omega) _ rfl)
    rw [Nat.add_zero] at g0
    have e0 := cell_regrown (cell_of hkb rfl : W2.cell? ⟨B, 0, none⟩ = some (.string a0))
    have e1 := cell_regrown (cell_of hkb rfl : W2.cell? ⟨B, 1, none⟩ = some (.int .i64 a1))
    have e2 := cell_regrown (cell_of hkb rfl : W2.cell? ⟨B, 2, none⟩ = some (.int .i64 a2))
    have e3 := cell_regrown (cell_of hkb rfl : W2.cell? ⟨B, 3, none⟩ = some (.bool a3))
    have e4 := cell_regrown (cell_of hkb rfl : W2.cell? ⟨B, 4, none⟩ = some (.bool a4))
    have hne : ∀ V : World, (binOp .neq 78 (.agg #[.string a0, .int .i64 a1, .int .i64 a2, .bool a3, .bool a4]) (.agg #[.string a0, .int .i64 a1, .int .i64 a2, .bool a3, .bool a4])).run Try.prog V = .ok (.bool false) V := fun V => by
      have := HFE.out V
      simp [binOp, go_sem, this]
    have cT : ∀ d os l m, CallsIn (Fence.wide.inRound l) m Try.prog 131 #[.agg #[.string a0, .string s1, .int .i64 a2, .bool a3, .bool a4]] (grow (redrawn W2 d) os) fun e w'' => e = .returned (.agg #[.string a0, .int .i64 a1, .int .i64 a2, .bool a3, .bool a4]) ∧ ∃ p : Regrown, w'' = grow (redrawn W2 p.d) p.os := fun d os l m => CallsIn.regrown_of (CallsIn.inRound _ (callsIn_wide.2 (by have := refTell_b a0 s1 a2 a3 a4 (grow (redrawn W2 d) os); rw [HZ.out.2.1] at this; exact this)))
    have hd0 : decide ((N : Int) ≤ (j : Int)) = false := decide_eq_false (by omega)
    have hjn : (j : Int) < (N : Int) := by omega
    have hj0 : ¬ ((j : Int) < 0) := by omega
    have hj0' : (0 : Int) ≤ (j : Int) := by omega
    have HI2 := Lib.hid (And.intro hi2 (And.intro hkb hrow))
    have HR2 := Lib.hid (And.intro hr2 hh)
    generalize hQ : toldPost _ _ _ _ _ = Q
    have HQ := Lib.hid hQ
    clear hjx hjl hopV hop2 hi2 hBV hVl hkb hnc hcells hQ ho hr2 hh hrow
    gi_wp2_with fail
    refine wpIn_region_below_nd (by kernel_rfl) (by kernel_rfl) (by kernel_rfl) ?_
    repeat (quiet_step_in (first | exact ⟨fun _ => by omega, cT _ _ _ _⟩ | exact cT _ _ _ _))
    refine wpQuietIn_nil ?_
    intro _ hw'
    obtain ⟨⟨dq, osq⟩, hw''⟩ := hw'
    obtain ⟨w6, hw6⟩ : ∃ V, V = grow (redrawn W2 dq) osq := ⟨_, rfl⟩
    have hb26 : Below W2.heap.size W2 w6 := by rw [hw6]; exact below_regrown W2 dq osq
    have hi6 := HI2.out.1.later hb26
    have hkb6 := (hb26.block B (Array.getElem?_eq_some_iff.1 HI2.out.2.1).1).trans HI2.out.2.1
    subst hw''
    rw [← hw6]
    have HRD := Lib.hid (read_b (H4.out.1.below hi6.below) a0 HZ.out.1 0 a1 (by omega) (by have := HZ.out.2.2.1; have := HZ.out.2.2.2.1; omega))
    have c2 : w6.cell? ⟨b2, 0, none⟩ = some (.pointer (some ⟨q, 0, none⟩)) := cell_of ((hi6.below.block b2 (Array.getElem?_eq_some_iff.1 HC4.out.2.2).1).trans HC4.out.2.2) rfl
    have d0 : w6.cell? ⟨B, 0, none⟩ = some (.string a0) := cell_of hkb6 rfl
    have d1 : w6.cell? ⟨B, 1, none⟩ = some (.int .i64 a1) := cell_of hkb6 rfl
    have HB6 := Lib.hid hb26
    clear k6 k3 kp g0 g1 g2 g3 g4 e0 e1 e2 e3 e4 hne cT hd0 hw6 hb26 hi6 hkb6
    gi_wp2_with fail
    refine (CallsIn.inRound _ (callsIn_wide.2 HRD.out)).mono ?_
    rintro e w7 ⟨v1, rfl, hv1⟩
    rw [HX.out.2.2.2] at hv1 ⊢
    have hb27 : Below W2.heap.size W2 w7 := HB6.out.trans (hv1.2.2.mono HB6.out.size)
    have hi7 := HI2.out.1.later hb27
    have hcv : ∀ d os, (convert 79 9 v1).run Try.prog (grow (redrawn w7 d) os) = .ok (.string s1) (grow (redrawn w7 d) os) := fun d os => by
      rw [HZ.out.2.2.2.2]
      exact run_string_at _ 79 9 5 v1 x.bytes Try.underlying79 Try.underlying5 Try.underlying9 (hv1.1.kept (fun k hk => (below_regrown w7 d os).block k (hv1.1.lt k hk)))
    have hrow7 := HI2.out.2.2.kept (fun k hk => hb27.block k (HI2.out.2.2.lt k hk))
    have hh7 := (hb27.block p (Array.getElem?_eq_some_iff.1 HR2.out.2).1).trans HR2.out.2
    obtain ⟨hjl, hjx⟩ := HX.out.1
    have k6' : w7.cell? ⟨b6, 0, none⟩ = some (.int .i64 j) := cell_of hi7.box rfl
    have z6' : w7.frozen? ⟨b6, 0, none⟩ = false := free_of hi7.box _
    have k6 := cell_regrown k6'
    have k3 := cell_regrown (cell_of ((hi7.below.block b3 (Array.getElem?_eq_some_iff.1 HC4.out.1).1).trans HC4.out.1) rfl : w7.cell? ⟨b3, 0, none⟩ = some (.pointer (some ⟨p, 0, none⟩)))
    have kp := cell_regrown (cell_of hh7 rfl : w7.cell? ⟨p, 0, none⟩ = some (.slice (some ⟨g, off, none⟩) N c))
    have g1 := cell_regrown (rf_cell hrow7 hjl (i := 1) (u := .string s1) (by omega) (by rw [hjx, HX.out.2.1]; rfl))
    have HI7 := Lib.hid hi7
    clear hjl hjx hrow7 hh7 hi7 hb27 k6' z6' c2 d0 d1
    gi_wp2_with fail
    refine wpIn_region_below_nd (by kernel_rfl) (by kernel_rfl) (by kernel_rfl) ?_
    repeat (quiet_step_in (fail))
    refine wpQuietIn_nil ?_
    intro _ hw'
    obtain ⟨⟨dq, osq⟩, hw''⟩ := hw'
    obtain ⟨w8, hw8⟩ : ∃ V, V = grow (redrawn w7 dq) osq := ⟨_, rfl⟩
    have hb78 : Below w7.heap.size w7 w8 := by rw [hw8]; exact below_regrown w7 dq osq
    have hi8 := HI7.out.later hb78
    subst hw''
    rw [← hw8]
    have k8 : w8.cell? ⟨b6, 0, none⟩ = some (.int .i64 j) := cell_of hi8.box rfl
    have z8 : w8.frozen? ⟨b6, 0, none⟩ = false := free_of hi8.box _
    have HI8 := Lib.hid (And.intro hi8 hb78)
    clear k6 k3 kp g1 hcv hw8 hb78 hi8
    gi_wp2_with fail
    rw [← HQ.out]
    have hb6 := HI8.out.1.at'
    have hl6 := HI8.out.1.low
    have hjj : ((j : Int) + 1) = ((j + 1 : Nat) : Int) := by omega
    have hset : w4.heap.size ≤ b6 ∧ ¬ (T b6 ∨ b6 = b6 + 1 ∨ b6 = b6 + 1 + 1) := ⟨by omega, fun e => by rcases e with e | e | e; (have := hl6 _ e; omega); omega; omega⟩
    rw [hjj]
    refine ⟨(((KeptR.of HB6.out).join (KeptR.of hv1.2.2)).join (KeptR.of HI8.out.2)).join (only_setCell _ _ b6 _ _ hset), ?_⟩
    show IsI w4 _ b6 T (pre ++ [x]).length
    rw [List.length_append, List.length_singleton, HX.out.2.2.1]
    exact ⟨HI8.out.1.below.setCell (p := ⟨b6, 0, none⟩) (by show w4.heap.size ≤ b6; omega) _, heap_setCell_here _ HI8.out.1.box, hl6, hb6⟩
end Go.Proofs.Ytmkjejngnahpeaa
