/- The texts Kf, Gc, Kg, Gh, Ki in one. -/
import Derived.Test.YtmkjejngnahpeaaC4
import Derived.Test.YtmkjejngnahpeaaD1
/- stops: going over what each way leaves. -/
namespace Go.Proofs.Ytmkjejngnahpeaa
open Go Go.Maps Go.RowKit Go.Shelf Go.Sort
attribute [local go_sem] Oper.semAt_some

/-- the blocks that are Images' own: from B on three, and the ways' T -/
def imT (B : Nat) (T : Nat → Prop) : Nat → Prop := fun k => T k ∨ k = B ∨ k = B + 1 ∨ k = B + 2
set_option maxRecDepth 100000 in
set_option maxHeartbeats 4000000 in
theorem imagesIn (n : Nat) (hn : 3 ≤ n) (l bs bm : Nat) (w : World) (us : List U0) (d : Dk) (him : ImagesOf w bs bm us d) (hlen : us.length ≤ 4096) (hsm : ∀ u ∈ us, u.more ≤ 16777216)
    (J Jx : (Nat → Prop) → Nat → World → Prop) (W : World) (hW : Below w.heap.size w W)
    (hs : ∀ T W1, Below W.heap.size W W1 → (∀ k, T k → W.heap.size ≤ k ∧ k < W1.heap.size) → J T 0 W1)
    (hJ : ∀ T j A B, J T j A → Only T A B → J T j B) (hJx : ∀ T j A B, Jx T j A → Only T A B → Jx T j B)
    (hY : ∀ T j x Wp W1, (∀ k, T k → W.heap.size ≤ k ∧ k < W1.heap.size) → J T j Wp → Only T Wp W1 → W.heap.size ≤ Wp.heap.size → ImAt us d Wp.heap.size T j x W1 → j < prodW us → YieldAt Fence.wide (n - 1) Try.prog l (encI x) W1 fun e W' =>
      (e = .returned (.bool true) ∧ J T (j + 1) W' ∧ KeptR w.heap.size T W1 W') ∨ (e = .returned (.bool false) ∧ Jx T (j + 1) W' ∧ KeptR w.heap.size T W1 W')) :
    CallsIn Fence.wide n Try.prog 142 #[.func (.yield l) #[] #[], .pointer (some ⟨bs, 0, none⟩), .pointer (some ⟨bm, 0, none⟩)] W fun e W' => (∃ v, e = .returned v) ∧ ((∃ T, J T (prodW us) W') ∨ ∃ T j, j ≤ prodW us ∧ Jx T j W') := by
  obtain ⟨b3, b4, qo, S, hbs, hbm, hwo, hd⟩ := him
  have f1 : Fence.wide.fn 40 := trivial
  refine callsIn_of_wp_marks Try.func142 rfl trivial ?_ rfl
  simp only [Try.ntmps142, List.size_toArray, List.length_cons, List.length_nil, Nat.reduceAdd, Nat.reduceSub, Array.replicate_succ, Array.replicate_zero, List.push_toArray, List.append_toArray, List.nil_append, List.cons_append]
  obtain ⟨w1, hw1⟩ : ∃ V : World, V = W.alloc (.cells #[.func (.yield l) #[] #[]] 219) := ⟨_, rfl⟩
  have hb1 : Below W.heap.size W w1 := by rw [hw1]; exact (Below.refl _ _).alloc (Nat.le_refl _) _
  have hs1 : w1.heap.size = W.heap.size + 1 := by rw [hw1]; simp
  have hbx : w1.heap[W.heap.size]? = some (.cells #[.func (.yield l) #[] #[]] 219 (0, 0)) := by rw [hw1]; exact alloc_cells _ _ _
  have hww1 : Below w.heap.size w w1 := hW.trans (hb1.mono hW.size)
  have hbsz : bs < w.heap.size := (Array.getElem?_eq_some_iff.1 hbs).1
  have c1 : w1.cell? ⟨bs, 0, none⟩ = some (.func (.func 141) #[] #[.pointer (some ⟨b3, 0, none⟩), .pointer (some ⟨b4, 0, none⟩)]) := cell_of ((hww1.block bs hbsz).trans hbs) rfl
  rw [hw1] at c1
  have HM := Lib.hid (And.intro hbm hd)
  have HW := Lib.hid hW
  have H1 := Lib.hid (And.intro hb1 (And.intro hs1 (And.intro hbx hww1)))
  have hst := ways_told (n - 1) (by omega) b3 b4 w us hwo hlen hsm
  have HST := Lib.hid hs
  have HJ := Lib.hid hJ
  have HJX := Lib.hid hJx
  have HY := Lib.hid hY
  clear hbs hbm hd hW hb1 hs1 hbx hww1 hs hJ hJx hY hwo
  gi_wp2_with fail
  rw [← hw1]
  clear c1 hw1
  refine wpIn_rangeFunc_told (n := n) (α := SlV) rfl (by omega) (gf := 141) (lb := #[.pointer (some ⟨b3, 0, none⟩), .pointer (some ⟨b4, 0, none⟩)]) rfl trivial (enters_of Try.func141 (by kernel_rfl) rfl) hst H1.out.2.2.2 (fun _ => rfl)
    (fun T pre V => J (imT W.heap.size T) pre.length V ∧ V.heap[W.heap.size]? = some (.cells #[.func (.yield l) #[] #[]] 219 (0, 0)) ∧ Below w.heap.size w V ∧ ∀ k, T k → W.heap.size + 3 ≤ k)
    (fun c T pre V => c = .ret ∧ pre.length ≤ prodW us ∧ Jx (imT W.heap.size T) pre.length V) ?I ?Ix ?h0 ?round ?done ?stop
  case I =>
    rintro T pre A B ⟨hj, hbx, hbl, hT⟩ ho
    rw [H1.out.2.1] at ho
    have hlow := HW.out.size
    exact ⟨HJ.out _ _ _ _ hj (ho.mono (fun k _ hk => by rcases hk with h | h | h; exact .inl h; exact .inr (.inr (.inl h)); exact .inr (.inr (.inr h)))),
      (ho.block _ (Array.getElem?_eq_some_iff.1 hbx).1 (fun h => by rcases h with h | h | h; (have := hT _ h; omega); omega; omega)).trans hbx,
      hbl.trans (ho.below (fun i hi h => by rcases h with h | h | h; (have := hT _ h; omega); omega; omega) hbl.size), hT⟩
  case Ix =>
    rintro c T pre A B ⟨hc, hp, hj⟩ ho
    rw [H1.out.2.1] at ho
    exact ⟨hc, hp, HJX.out _ _ _ _ hj (ho.mono (fun k _ hk => by rcases hk with h | h | h; exact .inl h; exact .inr (.inr (.inl h)); exact .inr (.inr (.inr h))))⟩
  case h0 =>
    intro T W1 hb hsz hT
    rw [H1.out.2.1] at hsz hT
    have hb' : Below W.heap.size W W1 := H1.out.1.trans (hb.mono H1.out.1.size)
    exact ⟨HST.out _ _ hb' (fun k hk => by rcases hk with h | h | h | h; (have := hT _ h; omega); omega; omega; omega), (hb.block _ (by rw [H1.out.2.1]; omega)).trans H1.out.2.2.1, HW.out.trans (hb'.mono HW.out.size), fun k hk => (hT k hk).1⟩
  case done =>
    rintro T xs V hS ⟨hj, hbx, hbl, hT⟩ hD
    have hS' : xs.length = prodW us := hS
    rw [hS', ] at hj
    have HJD := Lib.hid (And.intro hj hD)
    clear hj hbx hbl hT hD hS hS' hst
    gi_wp2_with fail
    refine ⟨by simp, .inl ⟨_, _, rfl, run_takeDeferred HJD.out.2, ?_⟩⟩
    exact ⟨_, results_none rfl _ _ _, ⟨_, rfl⟩, .inl ⟨imT W.heap.size T, HJ.out _ _ _ _ HJD.out.1 (only_put _ _ _ _ (by rw [H1.out.2.1]; exact .inr (.inr (.inl rfl))))⟩⟩
  case stop =>
    rintro T c pre V hS ⟨rfl, hp, hj⟩ hD
    have HJD := Lib.hid (And.intro hj (And.intro hD hp))
    clear hj hD hp hS hst
    gi_wp2_with fail
    refine ⟨by simp, .inl ⟨_, _, rfl, run_takeDeferred HJD.out.2.1, ?_⟩⟩
    exact ⟨_, results_none rfl _ _ _, ⟨_, rfl⟩, .inr ⟨imT W.heap.size T, pre.length, HJD.out.2.2, HJX.out _ _ _ _ HJD.out.1 (only_put _ _ _ _ (by rw [H1.out.2.1]; exact .inr (.inr (.inl rfl))))⟩⟩
  case round =>
    rintro T pre ⟨oa, xn, c⟩ Wp V hT hrec hdef ⟨hjp, hbxp, hblp, hT3⟩ hop hszp hgv hlt K hK
    rw [H1.out.2.1] at hT hrec hdef hK hszp
    have hlow := HW.out.size
    have hj := HJ.out _ _ _ _ hjp (hop.mono (fun k _ hk => show imT W.heap.size T k from .inl hk))
    have hbx := (hop.block _ (Array.getElem?_eq_some_iff.1 hbxp).1 (fun h => by have := hT3 _ h; omega)).trans hbxp
    have hbl := hblp.trans (hop.below (fun i hi h => by have := hT3 _ h; omega) hblp.size)
    have HWP := Lib.hid (And.intro hjp (And.intro hop hszp))
    clear hjp hbxp hblp hop hszp hlow
    obtain ⟨hxn, hrow, hown⟩ := hgv
    dsimp only at hxn hrow hown
    obtain ⟨V', hV'⟩ : ∃ V', V' = V.alloc (.cells #[.slice oa xn c] 72) := ⟨_, rfl⟩
    obtain ⟨B, hB⟩ : ∃ b, b = V.heap.size := ⟨_, rfl⟩
    have hbV : Below V.heap.size V V' := by rw [hV']; exact (Below.refl _ _).alloc (Nat.le_refl _) _
    have hBx : V'.heap[B]? = some (.cells #[.slice oa xn c] 72 (0, 0)) := by rw [hV', hB]; exact alloc_cells _ _ _
    have HK := Lib.hid hK
    have HV := Lib.hid (And.intro hT (And.intro hrec (And.intro hdef (And.intro hj (And.intro hbx (And.intro hbl hT3))))))
    have HX := Lib.hid (And.intro hxn (And.intro hrow hown))
    have HVB := Lib.hid (And.intro hbV (And.intro hBx hB))
    have HLT := Lib.hid hlt
    clear hK hT hrec hdef hj hbx hbl hT3 hxn hrow hown hlt hBx hbV hst
    unfold encW
    gi_wp2_with fail
    rw [← hV', ← hB]
    clear hV' hB
    refine HK.out _ _ (KeptR.of HVB.out.1) ?_
    intro W2 ho hr2
    have hlow := HW.out.size
    have hrn : ∀ (k : Nat) (cs : Array Value) (t : TypeId) (fr : Nat × Nat), V'.heap[k]? = some (.cells cs t fr) → k ≠ W.heap.size + 1 + 1 := fun k cs t fr hk e => by
      obtain ⟨r, hr⟩ := HV.out.2.1
      have h1 := (HVB.out.1.block _ (Array.getElem?_eq_some_iff.1 hr).1).trans hr
      rw [e] at hk
      rw [hk] at h1
      cases h1
    have hsame : ∀ (k : Nat) (cs : Array Value) (t : TypeId) (fr : Nat × Nat), V'.heap[k]? = some (.cells cs t fr) → W2.heap[k]? = some (.cells cs t fr) := fun k cs t fr hk => (ho.block k (Array.getElem?_eq_some_iff.1 hk).1 (hrn k cs t fr hk)).trans hk
    have hbw2 : Below w.heap.size w W2 := (HV.out.2.2.2.2.2.1.trans (HVB.out.1.mono HV.out.2.2.2.2.2.1.size)).trans (ho.below (fun i hi h => by omega) (Nat.le_trans HV.out.2.2.2.2.2.1.size HVB.out.1.size))
    have kx : W2.cell? ⟨W.heap.size, 0, none⟩ = some (.func (.yield l) #[] #[]) := cell_of (hsame _ _ _ _ ((HVB.out.1.block _ (Array.getElem?_eq_some_iff.1 HV.out.2.2.2.2.1).1).trans HV.out.2.2.2.2.1)) rfl
    have kb : W2.cell? ⟨B, 0, none⟩ = some (.slice oa xn c) := cell_of (hsame _ _ _ _ HVB.out.2.1) rfl
    have km : W2.cell? ⟨bm, 0, none⟩ = some (.pointer (some ⟨qo, 0, none⟩)) := cell_of ((hbw2.block bm (Array.getElem?_eq_some_iff.1 HM.out.1).1).trans HM.out.1) rfl
    have HD2 := Lib.hid (HM.out.2.below hbw2)
    have hrow2 : rowAt W2 3 1 (.slice oa xn c) xn (natCells (ofT us (digT us pre.length) [])) := HX.out.2.1.kept (fun k hk => by
      have hlt := HX.out.2.1.lt k hk
      have hne : k ≠ W.heap.size + 1 + 1 := fun e => by
        rcases HX.out.2.1.2 with ⟨hv, _⟩ | ⟨g, off, cap, cur, fr, hv, hgg, _⟩
        · rw [hv] at hk
          simp [Value.ownBlock] at hk
        · rw [hv] at hk
          simp only [Value.ownBlock, Option.some.injEq] at hk
          subst hk
          exact hrn _ _ _ _ ((HVB.out.1.block _ hlt).trans hgg) e
      exact (ho.block k (Nat.lt_of_lt_of_le hlt HVB.out.1.size) hne).trans (HVB.out.1.block k hlt))
    have hps : (picksOf us pre.length).length = xn := by unfold picksOf; rw [List.length_map, HX.out.1]
    have HC : Hid (Calls Try.prog 40 #[.pointer (some ⟨qo, 0, none⟩), .agg #[.slice oa xn c]] W2 fun e w' => CrashIs W2 d (picksOf us pre.length) e w') := Lib.hid (by
      rw [picksOf_cells] at hrow2
      have h := crash_b HD2.out oa c (picksOf us pre.length) (by rw [hps]; exact hrow2.read) (by have := picksOf_len hlen pre.length; omega) (fun x hx => by have := picksOf_max hsm pre.length x hx; omega)
      rwa [hps] at h)
    have HS := Lib.hid (And.intro hbw2 (And.intro hrow2 (And.intro ho hr2)))
    have hJ2 : J (imT W.heap.size T) pre.length W2 := HJ.out _ _ _ _ (HJ.out _ _ _ _ HV.out.2.2.2.1 (Only.of_below HVB.out.1 (Nat.le_refl _) _)) (ho.mono (fun k _ hk => .inr (.inr (.inr hk))))
    have HJ2 := Lib.hid hJ2
    clear hrn hsame hbw2 hrow2 hps ho hr2 hJ2
    have hn3 : 1 ≤ n - 1 - 1 := by omega
    generalize hQ : toldPost _ _ _ _ _ = Q
    have HQ := Lib.hid hQ
    clear hQ
    gi_wp2_with fail
    refine (CallsIn.inRound _ (callsIn_wide.2 HC.out)).mono ?_
    rintro e w3 (⟨hf, -, -⟩ | ⟨-, qn, rfl, hd3, hb3⟩)
    · exact absurd (picksOf_ge us pre.length) hf
    have hsz3 := hb3.size
    have hV2 : V'.heap.size ≤ W2.heap.size := HS.out.2.2.1.size
    have hVs : V.heap.size ≤ V'.heap.size := HVB.out.1.size
    have hTO : ∀ k, imT W.heap.size T k → W.heap.size ≤ k ∧ k < V.heap.size := fun k hk => by
      have h1 : W.heap.size + 1 + 1 < V.heap.size := by
        obtain ⟨r, hr⟩ := HV.out.2.1
        exact (Array.getElem?_eq_some_iff.1 hr).1
      rcases hk with h | h | h | h
      · have := HV.out.1 _ h; omega
      · omega
      · omega
      · omega
    have hlowV : w.heap.size ≤ V.heap.size := HV.out.2.2.2.2.2.1.size
    have hWV : W.heap.size ≤ V.heap.size := by
      obtain ⟨r, hr⟩ := HV.out.2.1
      have := (Array.getElem?_eq_some_iff.1 hr).1
      omega
    have hopw : Only (imT W.heap.size T) Wp w3 := ((HWP.out.2.1.mono (fun k _ hk => show imT W.heap.size T k from .inl hk)).trans (((Only.of_below HVB.out.1 (Nat.le_refl _) _).trans (HS.out.2.2.1.mono (fun k _ hk => show imT W.heap.size T k from .inr (.inr (.inr hk)))) (fun _ _ h => h)).trans (Only.of_below hb3 (Nat.le_refl _) _) (fun _ _ h => h)) (fun _ _ h => h))
    have hszpv := HWP.out.2.1.size
    have hyy := yield_wide (l' := W.heap.size + 1 + 1) (m' := n - 1 - 1 - 1) (HY.out (imT W.heap.size T) pre.length ⟨⟨oa, xn, c⟩, qn⟩ Wp w3 (fun k hk => ⟨(hTO k hk).1, by have := (hTO k hk).2; omega⟩) HWP.out.1 hopw (by have := HWP.out.2.2; omega)
      ⟨⟨HX.out.1, HS.out.2.1.kept (fun k hk => hb3.block k (HS.out.2.1.lt k hk)), fun k hk => ⟨by have := (HX.out.2.2 k hk).1; omega, fun h => ?_⟩⟩, _, hd3, fun k hk => ⟨by have := hk.1; omega, fun h => by have := (hTO k h).2; omega⟩⟩ HLT.out)
    · obtain ⟨fn, tmps, assign, body, hy, hR⟩ := hyy
      have hy' : (Instr.yield l #[.agg #[.slice oa xn c], .pointer (some ⟨qn, 0, none⟩)]).run Try.prog w3 = .ok (.round l fn tmps assign body) w3 := hy
      have HRD := Lib.hid hR
      have HB3 := Lib.hid (And.intro hb3 (And.intro hTO (And.intro hV2 (And.intro hVs hlowV))))
      have kx3 : w3.cell? ⟨W.heap.size, 0, none⟩ = some (.func (.yield l) #[] #[]) := (hb3.cell (p := ⟨W.heap.size, 0, none⟩) (by have := HW.out.size; have := (Array.getElem?_eq_some_iff.1 HV.out.2.2.2.2.1).1; show W.heap.size < W2.heap.size; omega)).trans kx
      have kb3 : w3.cell? ⟨B, 0, none⟩ = some (.slice oa xn c) := (hb3.cell (p := ⟨B, 0, none⟩) (by have := (Array.getElem?_eq_some_iff.1 HVB.out.2.1).1; show B < W2.heap.size; omega)).trans kb
      clear hy hR hb3 hTO hd3 kx kb km hsz3 hV2 hVs hlowV
      gi_wp2_with fail
      refine HRD.out.mono ?_
      rintro e W4 (⟨rfl, hJ4, hk4⟩ | ⟨rfl, hJx4, hk4⟩)
      · have HF := Lib.hid (And.intro hJ4 hk4)
        clear hJ4 hk4 hy'
        gi_wp2_with fail
        rw [← HQ.out]
        have hB3s := HB3.out.1.size
        have hVV := HB3.out.2.2.1
        have hVV' := HB3.out.2.2.2.1
        have hTO := HB3.out.2.1
        have hkw : KeptR w.heap.size (imT W.heap.size T) W2 W4 := (KeptR.of HB3.out.1).join HF.out.2
        refine ⟨hkw.mono (fun k _ hk => ⟨hk.1, fun h => hk.2 ?_⟩), ?_, ?_, HS.out.1.trans (hkw.below (fun i hi h => by have h1 := h.1; omega) HS.out.1.size), HV.out.2.2.2.2.2.2⟩
        · rcases h with h | h | h
          · exact .inl h
          · exact .inr (.inr (.inl h))
          · exact .inr (.inr (.inr h))
        · have h5 := HF.out.1
          simpa using h5
        · have h6 : W2.heap[W.heap.size]? = some (.cells #[.func (.yield l) #[] #[]] 219 (0, 0)) := by
            have h7 := (HVB.out.1.block _ (Array.getElem?_eq_some_iff.1 HV.out.2.2.2.2.1).1).trans HV.out.2.2.2.2.1
            exact (HS.out.2.2.1.block _ (Array.getElem?_eq_some_iff.1 h7).1 (by omega)).trans h7
          exact (hkw.block _ (Array.getElem?_eq_some_iff.1 h6).1 (fun h => h.2 (.inr (.inl rfl)))).trans h6
      · have HF := Lib.hid (And.intro hJx4 hk4)
        clear hJx4 hk4 hy'
        gi_wp2_with fail
        rw [← HQ.out]
        have hkw : KeptR w.heap.size (imT W.heap.size T) W2 W4 := (KeptR.of HB3.out.1).join HF.out.2
        refine ⟨hkw.mono (fun k _ hk => ⟨hk.1, fun h => hk.2 ?_⟩), rfl, ?_, ?_⟩
        · rcases h with h | h | h
          · exact .inl h
          · exact .inr (.inr (.inl h))
          · exact .inr (.inr (.inr h))
        · have := HLT.out
          simp
          omega
        · have h5 := HF.out.1
          simpa using h5
    · have hrow := HX.out.2.1
      rcases h with h | h | h | h
      · exact (HX.out.2.2 k hk).2 h
      · subst h
        exact absurd (row_type hrow hk HV.out.2.2.2.2.1) (by decide)
      · rcases hrow.2 with ⟨hv, _⟩ | ⟨g, off, cap, cur, fr, hv, hgg, _⟩
        · rw [hv] at hk
          simp [Value.ownBlock] at hk
        · rw [hv] at hk
          simp only [Value.ownBlock, Option.some.injEq] at hk
          rw [hk, h, HV.out.2.2.1] at hgg
          cases hgg
      · obtain ⟨r, hr⟩ := HV.out.2.1
        rcases hrow.2 with ⟨hv, _⟩ | ⟨g, off, cap, cur, fr, hv, hgg, _⟩
        · rw [hv] at hk
          simp [Value.ownBlock] at hk
        · rw [hv] at hk
          simp only [Value.ownBlock, Option.some.injEq] at hk
          rw [hk, h, hr] at hgg
          cases hgg
end Go.Proofs.Ytmkjejngnahpeaa
/- Disk: what a crash leaves of each file, in plain words. -/
namespace Go.Proofs.Ytmkjejngnahpeaa
open Go Go.RowKit

/-- f is what a crash may leave of w -/
structure Left (w f : F0) : Prop where
  name : f.name = w.name
  there : f.there = true
  named : f.named = true
  lasts : f.lasts = f.bytes.length
  least : w.lasts ≤ f.bytes.length
  most : f.bytes.length ≤ w.bytes.length
  begins : f.bytes = w.bytes.take f.bytes.length
def firmF (w : F0) : Bool := w.there && w.named
/-- the files that a crash leaves, each with what it was -/
def leftPairs : List F0 → List Int → List (F0 × F0)
  | [], _ => []
  | w :: r, ps => if (keepP w ps).1 = false then leftPairs r (keepP w ps).2 else (w, cutF w (moreP w (keepP w ps).2).1) :: leftPairs r (moreP w (keepP w ps).2).2
theorem crash_pairs : ∀ (l acc : List F0) (ps : List Int), (l.foldl crashStep (acc, ps)).1 = acc ++ (leftPairs l ps).map (·.2)
  | [], acc, ps => by simp [leftPairs]
  | w :: r, acc, ps => by
    rw [List.foldl_cons]
    cases hk : (keepP w ps).1 with
    | false =>
      have e : crashStep (acc, ps) w = (acc, (keepP w ps).2) := by unfold crashStep; rw [if_pos hk]
      have e2 : leftPairs (w :: r) ps = leftPairs r (keepP w ps).2 := by rw [leftPairs, if_pos hk]
      rw [e, e2, crash_pairs r acc]
    | true =>
      have hk' : ¬ (keepP w ps).1 = false := by rw [hk]; simp
      have e : crashStep (acc, ps) w = (acc ++ [cutF w (moreP w (keepP w ps).2).1], (moreP w (keepP w ps).2).2) := by unfold crashStep; rw [if_neg hk']
      have e2 : leftPairs (w :: r) ps = (w, cutF w (moreP w (keepP w ps).2).1) :: leftPairs r (moreP w (keepP w ps).2).2 := by rw [leftPairs, if_neg hk']
      rw [e, e2, crash_pairs r]
      simp
theorem pairs_left : ∀ (l : List F0) (ps : List Int), (∀ w ∈ l, w.lasts ≤ w.bytes.length) → ∀ p ∈ leftPairs l ps, p.1 ∈ l ∧ Left p.1 p.2
  | [], ps, _, p, hp => by cases hp
  | w :: r, ps, hl, p, hp => by
    unfold leftPairs at hp
    split at hp
    · have := pairs_left r _ (fun x hx => hl x (by simp [hx])) p hp
      exact ⟨by simp [this.1], this.2⟩
    · rcases List.mem_cons.1 hp with rfl | hp
      · have hm := moreP_le w (keepP w ps).2 (hl w (by simp))
        have hlen : (w.bytes.take (w.lasts + (moreP w (keepP w ps).2).1)).length = w.lasts + (moreP w (keepP w ps).2).1 := by
          rw [List.length_take]; omega
        refine ⟨by simp, rfl, rfl, rfl, hlen.symm, ?_, ?_, ?_⟩
        · show w.lasts ≤ (w.bytes.take (w.lasts + (moreP w (keepP w ps).2).1)).length
          rw [hlen]; omega
        · show (w.bytes.take (w.lasts + (moreP w (keepP w ps).2).1)).length ≤ _
          rw [hlen]; omega
        · show w.bytes.take _ = w.bytes.take (w.bytes.take (w.lasts + (moreP w (keepP w ps).2).1)).length
          rw [hlen]
      · have := pairs_left r _ (fun x hx => hl x (by simp [hx])) p hp
        exact ⟨by simp [this.1], this.2⟩
theorem pairs_firm : ∀ (l : List F0) (ps : List Int), ((leftPairs l ps).filter fun p => firmF p.1).length = (l.filter firmF).length
  | [], ps => rfl
  | w :: r, ps => by
    unfold leftPairs
    split
    · rename_i hk
      have hw : firmF w = false := by
        unfold keepP at hk
        unfold firmF
        split at hk
        · cases hk
        · rename_i h; simpa using h
      rw [List.filter_cons_of_neg (by simp [hw]), pairs_firm r]
    · cases hw : firmF w
      · rw [List.filter_cons_of_neg (by simp [hw]), List.filter_cons_of_neg (by simp [hw]), pairs_firm r]
      · rw [List.filter_cons_of_pos (by simpa using hw), List.filter_cons_of_pos hw, List.length_cons, List.length_cons, pairs_firm r]
/-- the last file of a name -/
def lookF (l : List F0) (s : List UInt8) : Option F0 := l.find? fun w => w.name == s
theorem lookF_mem {l : List F0} (hs : (l.map (·.name)).Pairwise (· < ·)) {w : F0} (hw : w ∈ l) : lookF l w.name = some w := by
  have hnd : (l.map (·.name)).Nodup := hs.imp (fun {a b} hab he => by rw [he] at hab; exact List.lt_irrefl _ hab)
  clear hs
  unfold lookF
  induction l with
  | nil => cases hw
  | cons a r ih =>
    rw [List.map_cons, List.nodup_cons] at hnd
    rcases List.mem_cons.1 hw with rfl | h1
    · simp
    · have hne : ¬ a.name = w.name := fun e => hnd.1 (by rw [e]; exact List.mem_map_of_mem h1)
      rw [List.find?_cons_of_neg (by simpa using hne)]
      exact ih h1 hnd.2
/-- **what DiskLasts says, plainly** -/
theorem crash_left {d : Dk} (ps : List Int) (hl : ∀ w ∈ d.files, w.lasts ≤ w.bytes.length) (hs : (d.files.map (·.name)).Pairwise (· < ·)) :
    (∀ f ∈ (d.crash ps).files, ∃ w ∈ d.files, lookF d.files f.name = some w ∧ Left w f) ∧
    ((d.crash ps).files.filter fun f => (lookF d.files f.name).any firmF).length = (d.files.filter firmF).length := by
  have e : (d.crash ps).files = (leftPairs d.files ps).map (·.2) := by
    show (d.files.foldl crashStep ([], ps)).1 = _
    rw [crash_pairs]
    rfl
  have key : ∀ p ∈ leftPairs d.files ps, lookF d.files p.2.name = some p.1 ∧ p.1 ∈ d.files ∧ Left p.1 p.2 := fun p hp => by
    obtain ⟨h1, h2⟩ := pairs_left d.files ps hl p hp
    exact ⟨by rw [h2.name]; exact lookF_mem hs h1, h1, h2⟩
  refine ⟨fun f hf => ?_, ?_⟩
  · rw [e] at hf
    obtain ⟨p, hp, rfl⟩ := List.mem_map.1 hf
    obtain ⟨h1, h2, h3⟩ := key p hp
    exact ⟨p.1, h2, h1, h3⟩
  · rw [e, List.filter_map, List.length_map, ← pairs_firm d.files ps]
    congr 1
    refine List.filter_congr fun p hp => ?_
    simp only [Function.comp, (key p hp).1, Option.any_some]
end Go.Proofs.Ytmkjejngnahpeaa
/- stops: Images as a range; what any crash leaves lies between least and most, plainly. -/
namespace Go.Proofs.Ytmkjejngnahpeaa
open Go Go.Maps Go.RowKit Go.Shelf Go.Sort

theorem images_told (n : Nat) (hn : 3 ≤ n) (bs bm : Nat) (w : World) (us : List U0) (d : Dk) (him : ImagesOf w bs bm us d) (hlen : us.length ≤ 4096) (hsm : ∀ u ∈ us, u.more ≤ 16777216) :
    SeqTold Fence.wide n Try.prog 142 #[.pointer (some ⟨bs, 0, none⟩), .pointer (some ⟨bm, 0, none⟩)] encI (fun m T pre x W => ImAt us d m T pre.length x W) (fun xs => xs.length = prodW us) (fun pre => pre.length ≤ prodW us) (prodW us) w := fun l J Jx W hW hs hJ hJx hY => by
  refine (imagesIn n hn l bs bm w us d him hlen hsm (fun T j V => ∃ pre, pre.length = j ∧ J T pre V) (fun T j V => ∃ pre, pre.length = j ∧ Jx T pre V) W hW (fun T W1 h1 h2 => ⟨[], rfl, hs T W1 h1 h2⟩) ?_ ?_ ?_).mono ?_
  · rintro T j A B ⟨pre, h1, h2⟩ ho
    exact ⟨pre, h1, hJ T pre A B h2 ho⟩
  · rintro T j A B ⟨pre, h1, h2⟩ ho
    exact ⟨pre, h1, hJx T pre A B h2 ho⟩
  · rintro T j x Wp W1 hT ⟨pre, rfl, hj⟩ ho hz hpk hlt
    refine (hY T pre x Wp W1 hT hj ho hz hpk hlt).mono (fun e W' hr => ?_)
    rcases hr with ⟨h1, h2, h3⟩ | ⟨h1, h2, h3⟩
    · exact .inl ⟨h1, ⟨_, by simp, h2⟩, h3⟩
    · exact .inr ⟨h1, ⟨_, by simp, h2⟩, h3⟩
  · rintro e W' ⟨he, ⟨T, pre, h1, h2⟩ | ⟨T, j, hj, pre, rfl, h2⟩⟩
    · exact ⟨he, .inl ⟨T, pre, h1, h2⟩⟩
    · exact ⟨he, .inr ⟨T, pre, hj, h2⟩⟩
/-- each file of one disk is there in the other one, its bytes being a beginning -/
def Begins (a b : Dk) : Prop := ∀ f ∈ a.files, f.there = true → ∃ g, b.find f.name = some g ∧ ∃ k, f.bytes = g.bytes.take k
theorem pairs_cut : ∀ (l : List F0) (ps : List Int), (∀ w ∈ l, w.lasts ≤ w.bytes.length) → ∀ p ∈ leftPairs l ps, p.1 ∈ l ∧ ∃ k, k ≤ (unsF p.1).more ∧ p.2 = cutF p.1 k
  | [], ps, _, p, hp => by cases hp
  | w :: r, ps, hl, p, hp => by
    unfold leftPairs at hp
    split at hp
    · have := pairs_cut r _ (fun x hx => hl x (by simp [hx])) p hp
      exact ⟨by simp [this.1], this.2⟩
    · rcases List.mem_cons.1 hp with rfl | hp
      · refine ⟨by simp, _, ?_, rfl⟩
        unfold moreP unsF
        split
        · rename_i h
          simp only [Bool.and_eq_true, decide_eq_true_eq] at h
          have := nextP_lt (w.bytes.length - w.lasts + 1) (keepP w ps).2 (by omega)
          simp only [h.1, if_true]
          omega
        · exact Nat.zero_le _
      · have := pairs_cut r _ (fun x hx => hl x (by simp [hx])) p hp
        exact ⟨by simp [this.1], this.2⟩
/-- a firm file is left by every crash -/
theorem firm_in : ∀ (l : List F0) (ps : List Int) (w : F0), w ∈ l → firmF w = true → ∃ k, (w, cutF w k) ∈ leftPairs l ps
  | v :: r, ps, w, hw, hf => by
    unfold leftPairs
    split
    · rename_i hk
      rcases List.mem_cons.1 hw with rfl | hw
      · unfold keepP at hk
        unfold firmF at hf
        rw [if_pos hf] at hk
        cases hk
      · exact firm_in r _ w hw hf
    · rcases List.mem_cons.1 hw with rfl | hw
      · exact ⟨_, List.mem_cons_self ..⟩
      · obtain ⟨k, hk⟩ := firm_in r (moreP v (keepP v ps).2).2 w hw hf
        exact ⟨k, List.mem_cons_of_mem _ hk⟩
theorem nextP_nil (of : Nat) : nextP of [] = (0, []) := rfl
theorem keepP_nil (w : F0) : keepP w [] = (firmF w, []) := by
  unfold keepP firmF
  split
  · rename_i h
    rw [h]
  · rename_i h
    rw [nextP_nil, Bool.not_eq_true] at *
    rw [h]
    rfl
theorem moreP_nil (w : F0) : moreP w [] = (0, []) := by
  unfold moreP
  split <;> rfl
theorem least_pairs : ∀ (l : List F0), leftPairs l [] = (l.filter firmF).map fun w => (w, cutF w 0)
  | [] => rfl
  | w :: r => by
    unfold leftPairs
    rw [keepP_nil, moreP_nil, least_pairs r]
    cases h : firmF w
    · rw [if_pos rfl, List.filter_cons_of_neg (by rw [h]; simp)]
    · rw [if_neg (by simp), List.filter_cons_of_pos h]
      rfl
/-- the picks with which all stays -/
def mostOf (u : U0) : List Nat := (if u.name = true then [1] else []) ++ (if 0 < u.more then [u.more] else [])
def mostN (us : List U0) : List Nat := us.flatMap mostOf
def mostP (us : List U0) : List Int := (mostN us).map fun (x : Nat) => (x : Int)
theorem mostP_app (a b : List U0) : mostP (a ++ b) = mostP a ++ mostP b := by simp [mostP, mostN]
theorem of_most : ∀ (l : List U0) (out : List Nat), ofT l (l.map fun u => u.ways - 1) out = out ++ mostN l
  | [], out => by simp [ofT, mostN]
  | u :: l, out => by
    have e : ofStep out u (u.ways - 1) = out ++ mostOf u := by
      obtain ⟨b, m⟩ := u
      cases b
      · by_cases hm : 0 < m <;> simp [ofStep, U0.ways, mostOf, hm]
      · by_cases hm : 0 < m
        · simp [ofStep, U0.ways, mostOf, hm]
        · have : m = 0 := by omega
          subst this
          simp [ofStep, U0.ways, mostOf]
    show ofT l (l.map fun u => u.ways - 1) (ofStep out u (u.ways - 1)) = _
    rw [e, of_most l]
    simp [mostN]
/-- the plain picks of one file's way -/
def ofOne (u : U0) (x : Nat) : List Nat := if u.name = true then (if x = 0 then [0] else if 0 < u.more then [1, x - 1] else [1]) else if 0 < u.more then [x] else []
def ints (l : List Nat) : List Int := l.map fun (x : Nat) => (x : Int)
theorem ints_append (a b : List Nat) : ints (a ++ b) = ints a ++ ints b := by simp [ints]
theorem nextP_ints (m x : Nat) (r : List Int) (h : x < m) : nextP m (ints [x] ++ r) = (x, r) := by
  show (((x : Int)).toNat % m, r) = _
  rw [Int.toNat_natCast, Nat.mod_eq_of_lt h]
theorem keep_uns (w : F0) (ps : List Int) : keepP w ps = if (unsF w).name = true then (decide ((nextP 2 ps).1 ≠ 0), (nextP 2 ps).2) else (true, ps) := by
  obtain ⟨nm, bs, la, t, n⟩ := w
  cases t <;> cases n <;> rfl
theorem more_uns (w : F0) (ps : List Int) : moreP w ps = if 0 < (unsF w).more then nextP ((unsF w).more + 1) ps else (0, ps) := by
  obtain ⟨nm, bs, la, t, n⟩ := w
  cases t
  · rfl
  · by_cases h : la < bs.length
    · have h2 : 0 < bs.length - la := by omega
      simp [moreP, unsF, h, h2]
    · have h2 : bs.length - la = 0 := by omega
      simp [moreP, unsF, h, h2]
theorem keep_ints (w : F0) (x : Nat) (R : List Int) (hx : x < (unsF w).ways) : ((unsF w).name = true ∧ x = 0 → keepP w (ints (ofOne (unsF w) x) ++ R) = (false, R)) ∧
    (¬ ((unsF w).name = true ∧ x = 0) → (keepP w (ints (ofOne (unsF w) x) ++ R)).1 = true ∧ moreP w (keepP w (ints (ofOne (unsF w) x) ++ R)).2 = ((if (unsF w).name = true then x - 1 else x), R)) := by
  simp only [keep_uns, more_uns]
  generalize unsF w = u at hx ⊢
  obtain ⟨b, m⟩ := u
  cases b
  · refine ⟨fun h => absurd h.1 (by simp), fun _ => ?_⟩
    by_cases hm : 0 < m
    · have hlt : x < m + 1 := by simpa [U0.ways] using hx
      simp only [ofOne, hm, if_true]
      simp
      exact nextP_ints _ _ R hlt
    · have h0 : x = 0 := by simp [U0.ways] at hx; omega
      subst h0
      simp [ofOne, hm, ints]
  · by_cases h0 : x = 0
    · subst h0
      refine ⟨fun _ => ?_, fun h => (h ⟨rfl, rfl⟩).elim⟩
      simp only [ofOne, if_true, nextP_ints 2 0 R (by omega)]
      simp
    · refine ⟨fun h => absurd h.2 h0, fun _ => ?_⟩
      by_cases hm : 0 < m
      · have hlt : x - 1 < m + 1 := by simp [U0.ways] at hx; omega
        have e1 : ints [1, x - 1] ++ R = ints [1] ++ (ints [x - 1] ++ R) := rfl
        simp only [ofOne, h0, hm, if_true, if_false, e1, nextP_ints 2 1 _ (by omega), nextP_ints _ _ R hlt]
        simp
      · have h1 : x = 1 := by simp [U0.ways] at hx; omega
        subst h1
        simp only [ofOne, hm, if_true, if_false, nextP_ints 2 1 _ (by omega), Nat.one_ne_zero]
        simp
theorem most_one (u : U0) : mostOf u = ofOne u (u.ways - 1) := by
  obtain ⟨b, m⟩ := u
  cases b
  · simp [mostOf, ofOne, U0.ways]
  · by_cases hm : 0 < m
    · simp [mostOf, ofOne, U0.ways, hm]
    · have : m = 0 := by omega
      subst this
      simp [mostOf, ofOne, U0.ways]
theorem keep_most (w : F0) (r : List Int) : (keepP w (mostP [unsF w] ++ r)).1 = true ∧ moreP w (keepP w (mostP [unsF w] ++ r)).2 = ((unsF w).more, r) := by
  have e : mostP [unsF w] = ints (ofOne (unsF w) ((unsF w).ways - 1)) := by
    show ints (mostN [unsF w]) = _
    have : mostN [unsF w] = mostOf (unsF w) := by simp [mostN]
    rw [this, most_one]
  have hp := (unsF w).ways_pos
  have h0 : ¬ ((unsF w).name = true ∧ (unsF w).ways - 1 = 0) := fun h => by
    have h2 := h.2
    unfold U0.ways at h2
    rw [if_pos h.1] at h2
    omega
  obtain ⟨h1, h2⟩ := (keep_ints w ((unsF w).ways - 1) r (by omega)).2 h0
  rw [e]
  refine ⟨h1, h2.trans ?_⟩
  congr 1
  unfold U0.ways
  split <;> omega
theorem most_step (w : F0) (l : List F0) (r : List Int) : mostP (unsT (w :: l)) ++ r = mostP [unsF w] ++ (mostP (unsT l) ++ r) := by
  have e : unsT (w :: l) = unsOf w ++ unsT l := rfl
  have e2 : mostP (unsOf w) = mostP [unsF w] := by
    unfold unsOf
    split
    · rfl
    · rename_i h
      simp only [Bool.or_eq_true, decide_eq_true_eq, not_or, Bool.not_eq_true] at h
      simp [mostP, mostN, mostOf, h.1, h.2]
  rw [e, mostP_app, e2, List.append_assoc]
theorem most_pairs : ∀ (l : List F0) (r : List Int), leftPairs l (mostP (unsT l) ++ r) = l.map fun w => (w, cutF w (unsF w).more)
  | [], r => rfl
  | w :: l, r => by
    rw [most_step]
    obtain ⟨h1, h2⟩ := keep_most w (mostP (unsT l) ++ r)
    rw [leftPairs, if_neg (by rw [h1]; simp), h2, most_pairs l r]
    rfl
theorem crash_files (d : Dk) (ps : List Int) : (d.crash ps).files = (leftPairs d.files ps).map (·.2) := by
  show (d.files.foldl crashStep ([], ps)).1 = _
  rw [crash_pairs]
  rfl
theorem pairs_sub : ∀ (l : List F0) (ps : List Int), ((leftPairs l ps).map (·.1)).Sublist l
  | [], ps => by simp [leftPairs]
  | w :: r, ps => by
    unfold leftPairs
    split
    · exact (pairs_sub r _).cons _
    · exact (pairs_sub r _).cons_cons _
theorem pairs_names (l : List F0) (ps : List Int) (hl : ∀ w ∈ l, w.lasts ≤ w.bytes.length) : ((leftPairs l ps).map (·.2)).map (·.name) = ((leftPairs l ps).map (·.1)).map (·.name) := by
  rw [List.map_map, List.map_map]
  refine List.map_congr_left fun p hp => ?_
  obtain ⟨_, k, _, e⟩ := pairs_cut l ps hl p hp
  show p.2.name = p.1.name
  rw [e]
  rfl
theorem crash_sorted {d : Dk} (ps : List Int) (hl : ∀ w ∈ d.files, w.lasts ≤ w.bytes.length) (hs : (d.files.map (·.name)).Pairwise (· < ·)) : ((d.crash ps).files.map (·.name)).Pairwise (· < ·) := by
  rw [crash_files, pairs_names _ _ hl]
  exact hs.sublist ((pairs_sub _ _).map _)
theorem crash_find {d : Dk} {ps : List Int} (hl : ∀ w ∈ d.files, w.lasts ≤ w.bytes.length) (hs : (d.files.map (·.name)).Pairwise (· < ·)) {w : F0} {k : Nat} (h : (w, cutF w k) ∈ leftPairs d.files ps) : (d.crash ps).find w.name = some (cutF w k) := by
  have hm : cutF w k ∈ (d.crash ps).files := by
    rw [crash_files]
    exact List.mem_map.2 ⟨_, h, rfl⟩
  have hf := lookF_mem (crash_sorted ps hl hs) hm
  have e : (d.crash ps).at w.name = some (cutF w k) := hf
  unfold Dk.find
  rw [e]
  rfl
/-- **what Least leaves is a beginning of what any crash leaves** -/
theorem least_begins {d : Dk} (ps : List Int) (hl : ∀ w ∈ d.files, w.lasts ≤ w.bytes.length) (hs : (d.files.map (·.name)).Pairwise (· < ·)) : Begins (d.crash []) (d.crash ps) := fun f hf _ => by
  rw [crash_files, least_pairs, List.map_map] at hf
  obtain ⟨w, hw, e⟩ := List.mem_map.1 hf
  have e' : f = cutF w 0 := e.symm
  subst e'
  obtain ⟨hw1, hw2⟩ := List.mem_filter.1 hw
  obtain ⟨k, hk⟩ := firm_in d.files ps w hw1 hw2
  show ∃ g, (d.crash ps).find w.name = some g ∧ ∃ k, (cutF w 0).bytes = g.bytes.take k
  refine ⟨_, crash_find hl hs hk, w.lasts, ?_⟩
  show w.bytes.take (w.lasts + 0) = (w.bytes.take (w.lasts + k)).take w.lasts
  rw [List.take_take]
  congr 1
  omega
/-- **.. and that is a beginning of what Most leaves** -/
theorem begins_most {d : Dk} (ps : List Int) (hl : ∀ w ∈ d.files, w.lasts ≤ w.bytes.length) (hs : (d.files.map (·.name)).Pairwise (· < ·)) : Begins (d.crash ps) (d.crash (mostP (unsT d.files))) := fun f hf _ => by
  rw [crash_files] at hf
  obtain ⟨p, hp, rfl⟩ := List.mem_map.1 hf
  obtain ⟨hw, k, hk, e⟩ := pairs_cut d.files ps hl p hp
  have hm : (p.1, cutF p.1 (unsF p.1).more) ∈ leftPairs d.files (mostP (unsT d.files)) := by
    have := most_pairs d.files []
    rw [List.append_nil] at this
    rw [this]
    exact List.mem_map.2 ⟨_, hw, rfl⟩
  have hn : p.2.name = p.1.name := by rw [e]; rfl
  rw [hn]
  refine ⟨_, crash_find hl hs hm, p.1.lasts + k, ?_⟩
  rw [e]
  show p.1.bytes.take (p.1.lasts + k) = (p.1.bytes.take (p.1.lasts + (unsF p.1).more)).take (p.1.lasts + k)
  rw [List.take_take]
  congr 1
  omega
end Go.Proofs.Ytmkjejngnahpeaa
/- Disk: what the inner loop of DiskLasts finds, in plain words. -/
namespace Go.Proofs.Ytmkjejngnahpeaa
open Go Go.RowKit

def zeroF0 : F0 := ⟨[], [], 0, false, false⟩
/-- the last file of a name, else the empty one -/
def lastF (l : List F0) (s : List UInt8) (a : F0) : F0 := l.foldl (fun a w => if w.name = s then w else a) a
theorem lastF_succ {l : List F0} {j : Nat} (hj : j < l.length) (s : List UInt8) (a : F0) : lastF (l.take (j + 1)) s a = if l[j].name = s then l[j] else lastF (l.take j) s a := by
  unfold lastF
  rw [List.take_succ_eq_append_getElem hj, List.foldl_append]
  rfl
theorem lastF_none : ∀ (l : List F0) (s : List UInt8) (a : F0), (∀ w ∈ l, w.name ≠ s) → lastF l s a = a
  | [], _, _, _ => rfl
  | w :: r, s, a, h => by
    show lastF r s (if w.name = s then w else a) = a
    rw [if_neg (h w (by simp))]
    exact lastF_none r s a (fun x hx => h x (by simp [hx]))
theorem lastF_mem : ∀ {l : List F0} {w : F0} (a : F0), (l.map (·.name)).Nodup → w ∈ l → lastF l w.name a = w
  | x :: r, w, a, hn, hw => by
    rw [List.map_cons, List.nodup_cons] at hn
    show lastF r w.name (if x.name = w.name then x else a) = w
    rcases List.mem_cons.1 hw with rfl | h1
    · rw [if_pos rfl]
      exact lastF_none r _ _ (fun y hy he => hn.1 (by rw [← he]; exact List.mem_map_of_mem hy))
    · exact lastF_mem _ hn.2 h1
theorem names_nodup {l : List F0} (h : (l.map (·.name)).Pairwise (· < ·)) : (l.map (·.name)).Nodup :=
  h.imp (fun {a b} hab he => by rw [he] at hab; exact List.lt_irrefl _ hab)
/-- what the law's guard and its two reads ask of a file that a crash leaves -/
theorem left_reads {d : Dk} (ps : List Int) (hl : ∀ w ∈ d.files, w.lasts ≤ w.bytes.length) (hs : (d.files.map (·.name)).Pairwise (· < ·)) {f : F0} (hf : f ∈ (d.crash ps).files) :
    ∃ w ∈ d.files, lastF d.files f.name zeroF0 = w ∧ lookF d.files f.name = some w ∧ Left w f := by
  obtain ⟨w, hw, h1, h2⟩ := (crash_left ps hl hs).1 f hf
  exact ⟨w, hw, by rw [h2.name]; exact lastF_mem _ (names_nodup hs) hw, h1, h2⟩
theorem findF_mem {l : List F0} (hs : (l.map (·.name)).Pairwise (· < ·)) {w : F0} (hw : w ∈ l) (ht : w.there = true) (fa : List (Int × Int)) (st : Int) : (⟨l, fa, st⟩ : Dk).find w.name = some w := by
  have h := lookF_mem hs hw
  unfold lookF at h
  unfold Dk.find Dk.at
  show (l.find? fun x => x.name == w.name).filter _ = _
  rw [h]
  simp [Option.filter, ht]
/-- both reads tell the same bytes -/
theorem reads_same {d : Dk} {ps : List Int} (hs : (d.files.map (·.name)).Pairwise (· < ·)) (hs2 : ((d.crash ps).files.map (·.name)).Pairwise (· < ·)) {f w : F0} (hf : f ∈ (d.crash ps).files) (hw : w ∈ d.files) (ht : w.there = true) (h : Left w f) (hok : nameOk f.name = true) :
    d.read f.name 0 f.bytes.length = (f.bytes, 0) ∧ (d.crash ps).read f.name 0 (f.bytes.length + 9) = (f.bytes, 0) := by
  have h1 : d.find f.name = some w := by rw [h.name]; exact findF_mem hs hw ht d.fates d.steps
  have h2 : (d.crash ps).find f.name = some f := findF_mem hs2 hf h.there (d.crash ps).fates (d.crash ps).steps
  have hm := h.most
  constructor
  · unfold Dk.read
    rw [if_neg (by rw [hok]; simp), h1]
    show (if _ then _ else _) = _
    rw [if_neg (by omega)]
    have e : min ((f.bytes.length : Int)).toNat (w.bytes.length - (0 : Int).toNat) = f.bytes.length := by simp; omega
    rw [e, Int.toNat_zero, List.drop_zero, ← h.begins]
  · unfold Dk.read
    rw [if_neg (by rw [hok]; simp), h2]
    show (if _ then _ else _) = _
    rw [if_neg (by omega)]
    have e : min ((f.bytes.length : Int) + 9).toNat (f.bytes.length - (0 : Int).toNat) = f.bytes.length := by simp; omega
    rw [e, Int.toNat_zero, List.drop_zero, List.take_length]
/-- of the files gone over, those whose file was firm before -/
def firmIn (l : List F0) (pre : List F0) : Nat := (pre.filter fun f => (lookF l f.name).any firmF).length
theorem firmIn_snoc (l pre : List F0) (f : F0) : firmIn l (pre ++ [f]) = firmIn l pre + (if (lookF l f.name).any firmF then 1 else 0) := by
  unfold firmIn
  rw [List.filter_append, List.length_append]
  congr 1
  by_cases h : (lookF l f.name).any firmF = true
  · rw [if_pos h, List.filter_cons_of_pos (by simpa using h)]; rfl
  · rw [if_neg h, List.filter_cons_of_neg (by simpa using h)]; rfl
theorem firmIn_le (l pre : List F0) : firmIn l pre ≤ pre.length := List.length_filter_le _ _
theorem firmIn_all {d : Dk} (ps : List Int) (hl : ∀ w ∈ d.files, w.lasts ≤ w.bytes.length) (hs : (d.files.map (·.name)).Pairwise (· < ·)) : firmIn d.files (d.crash ps).files = (d.files.filter firmF).length := (crash_left ps hl hs).2
/-- the last loop's count -/
def firmTo (l : List F0) (j : Nat) : Nat := ((l.take j).filter firmF).length
theorem firmTo_succ {l : List F0} {j : Nat} (hj : j < l.length) : firmTo l (j + 1) = firmTo l j + (if firmF l[j] then 1 else 0) := by
  unfold firmTo
  rw [List.take_succ_eq_append_getElem hj, List.filter_append, List.length_append]
  congr 1
  by_cases h : firmF l[j] = true
  · rw [if_pos h, List.filter_cons_of_pos h]; rfl
  · rw [if_neg h, List.filter_cons_of_neg h]; rfl
theorem firmTo_all (l : List F0) : firmTo l l.length = (l.filter firmF).length := by unfold firmTo; rw [List.take_length]
end Go.Proofs.Ytmkjejngnahpeaa
/- stops: Least, Most; law08: begins. -/
namespace Go.Proofs.Ytmkjejngnahpeaa
open Go Go.Maps Go.RowKit
open Go.Proofs (encStr)

theorem DiskAt.spread {w : World} {S S' : Nat → Prop} {q : Nat} {d : Dk} (h : DiskAt w S q d) (hn : ∀ k, S k → S' k) (hl : ∀ k, S' k → k < w.heap.size) : DiskAt w S' q d := by
  obtain ⟨mb, fv, L, h⟩ := h
  exact ⟨mb, fv, L, h.wider hn hl⟩
theorem name_len {s : List UInt8} (h : nameOk s = true) : (⟨s.toArray⟩ : ByteArray).size ≤ maxLen := by
  simp only [nameOk, Bool.and_eq_true, decide_eq_true_eq] at h
  have h4 : (⟨s.toArray⟩ : ByteArray).size = s.length := rfl
  unfold maxLen
  omega
/-- a disk that a call has made -/
def MadeIs (w : World) (d : Dk) (e : Ending) (w' : World) : Prop :=
  ∃ q, e = .returned (.tuple #[.pointer (some ⟨q, 0, none⟩), .int .i64 0]) ∧ DiskAt w' (Can w.heap.size w') q d ∧ Below w.heap.size w w'
set_option maxRecDepth 100000 in
set_option maxHeartbeats 1000000 in
theorem sLeast_b {w : World} {S : Nat → Prop} {q : Nat} {d : Dk} (h : DiskAt w S q d) (hfm : d.fates.length ≤ 1000000000) :
    Calls Try.prog 82 #[.pointer (some ⟨q, 0, none⟩)] w fun e w' => MadeIs w (d.crash []) e w' := by
  have H := Lib.hid h
  clear h
  go_enter Try.func82, Try.ntmps82
  go_wp2_with fail
  refine (snone_b H.out hfm).mono ?_
  rintro e w1 ⟨rfl, hb1⟩
  have H1 := Lib.hid (And.intro (H.out.below hb1) hb1)
  clear hb1
  have HC := Lib.hid (crash_b H1.out.1 none 0 [] ⟨rfl, .inl ⟨rfl, none, 0, rfl, fun _ => rfl⟩⟩ (by simp) (fun x hx => by cases hx))
  go_wp2_with fail
  refine HC.out.mono ?_
  rintro e w2 (⟨hf, -, -⟩ | ⟨-, q2, rfl, hd, hb⟩)
  · exact absurd (fun x hx => by cases hx) hf
  have HD := Lib.hid (And.intro hd hb)
  clear hd hb
  go_wp2_with fail
  go_ret2
  have hs := H1.out.2.size
  exact ⟨q2, rfl, HD.out.1.spread (fun k hk => ⟨by have := hk.1; omega, hk.2⟩) (fun k hk => hk.2), H1.out.2.trans (HD.out.2.mono hs)⟩
theorem mostN_len : ∀ l : List U0, (mostN l).length ≤ 2 * l.length
  | [] => Nat.le_refl _
  | u :: l => by
    have h1 := mostN_len l
    have h2 : (mostOf u).length ≤ 2 := by
      unfold mostOf
      split <;> split <;> simp
    have e : mostN (u :: l) = mostOf u ++ mostN l := rfl
    rw [e, List.length_append, List.length_cons]
    omega
theorem mostN_max {l : List U0} (h : ∀ u ∈ l, u.more ≤ 16777216) : ∀ x ∈ mostN l, x ≤ 16777216 := fun x hx => by
  obtain ⟨u, hu, hxu⟩ := List.mem_flatMap.1 hx
  unfold mostOf at hxu
  rcases List.mem_append.1 hxu with h1 | h1
  · split at h1
    · simp only [List.mem_singleton] at h1; omega
    · cases h1
  · split at h1
    · simp only [List.mem_singleton] at h1; have := h u hu; omega
    · cases h1
theorem mostP_cells (l : List U0) : natCells (mostN l) = intCells (mostP l) := by
  unfold natCells intCells mostP
  rw [List.map_map]
  rfl
theorem mostP_ge (l : List U0) : AllGe (mostP l) := fun x hx => by
  obtain ⟨y, _, rfl⟩ := List.mem_map.1 hx
  exact Int.natCast_nonneg y
set_option maxRecDepth 100000 in
set_option maxHeartbeats 4000000 in
theorem sMost_b {w : World} {S : Nat → Prop} {q : Nat} {d : Dk} (h : DiskAt w S q d) (hfm : d.fates.length ≤ 1000000000) :
    Calls Try.prog 83 #[.pointer (some ⟨q, 0, none⟩)] w fun e w' => MadeIs w (d.crash (mostP (unsT d.files))) e w' := by
  have H := Lib.hid h
  have HZ := Lib.hid h.sizes
  have hone : ∀ (x : Int), ∀ v ∈ ([.int .i64 x] : List Value), v.oneCell' = true := fun x v hv => by
    rw [List.mem_singleton] at hv
    subst hv
    rfl
  have HONE := Lib.hid hone
  clear h hone
  go_enter Try.func83, Try.ntmps83
  go_wp2_with fail
  refine (snone_b H.out hfm).mono ?_
  rintro e w1 ⟨rfl, hb1⟩
  have H1 := Lib.hid (And.intro (H.out.below hb1) hb1)
  clear hb1
  go_wp2_with fail
  refine (sall_b H1.out.1).mono ?_
  rintro e w3 ⟨oa, n, c, rfl, hn, hr, hb3⟩
  have hlen := unsT_len d.files
  have hz := HZ.out
  have hm4 : n ≤ 4096 := by omega
  obtain ⟨l, hl⟩ : ∃ l, unsT d.files = l := ⟨_, rfl⟩
  have hmore := unsT_more (l := d.files) (fun f hf => (hz.2 f hf).2)
  rw [hl] at hn hr hmore
  have HL := Lib.hid hl
  have H3 := Lib.hid (And.intro (H1.out.1.below hb3) (H1.out.2.trans (hb3.mono H1.out.2.size)))
  have HR := Lib.hid (And.intro hn (And.intro hr.read hmore))
  clear hn hr hmore hb3 hlen hz hl
  go_wp2_with fail
  go_loopw [5, 14] (fun so i wr => ∃ (j : Nat) (oo : Option Addr) (co : Nat), j ≤ n ∧ i = .int .i64 j ∧ so = .slice oo j co ∧ Hid (NewR 2 1 w3 wr (.slice oo j co) j (natCells ((l.take j).map fun u => u.ways - 1)))) (fun _ i wr => n - (intOf i).toNat)
  case atStart => exact ⟨0, none, 0, Nat.zero_le _, rfl, rfl, Lib.hid (by simpa [natCells] using NewR.nil (e := 2) (size := 1) (Below.refl _ w3))⟩
  case round =>
    obtain ⟨j, oo, co, hj, rfl, rfl, HI⟩ := hrel
    by_cases hlt : j < n
    · have hjl : j < l.length := by rw [HR.out.1]; exact hlt
      have hrw : readAt wr 2 (.slice oa n c) n (uCells l) := HR.out.2.1.kept (fun k hl _ _ => HI.out.below.block k hl)
      obtain ⟨g, off, rfl⟩ := hrw.addr (by omega)
      obtain ⟨u, hu⟩ : ∃ u, l[j] = u := ⟨_, rfl⟩
      have hum : u.more ≤ 16777216 := HR.out.2.2 u (by rw [← hu]; exact List.getElem_mem _)
      obtain ⟨ub, hub⟩ : ∃ b, u.name = b := ⟨_, rfl⟩
      obtain ⟨um, humm⟩ : ∃ m, u.more = m := ⟨_, rfl⟩
      have k0 : wr.cell? ⟨g, off + j * 2, none⟩ = some (.bool ub) := us_cell (i := 0) hrw hjl (by omega) (by rw [hu, ← hub]; rfl)
      have k1 : wr.cell? ⟨g, off + j * 2 + 1, none⟩ = some (.int .i64 um) := us_cell (i := 1) hrw hjl (by omega) (by rw [hu, ← humm]; rfl)
      have hue : u = ⟨ub, um⟩ := by rw [← hub, ← humm]
      rw [humm] at hum
      have hwl : (U0.mk ub um).ways ≤ 16777218 := U0.ways_le hum
      obtain ⟨y, hy⟩ : ∃ y, (U0.mk ub um).ways - 1 = y := ⟨_, rfl⟩
      have hW : (U0.mk ub um).ways = y + 1 := by have := (U0.mk ub um).ways_pos; omega
      have HCS : Hid (natCells ((l.take (j + 1)).map fun u => u.ways - 1) = natCells ((l.take j).map fun u => u.ways - 1) ++ [.int .i64 (y : Int)]) := Lib.hid (by
        rw [List.take_succ_eq_append_getElem hjl, List.map_append, natCells_append, hu, hue]
        simp only [List.map_cons, List.map_nil, hy]
        rfl)
      have HWAY : Hid (∀ W' : World, Calls Try.prog 138 #[.agg #[.bool ub, .int .i64 um]] W' fun e w' => e = .returned (.int .i64 ((y : Int) + 1)) ∧ Below W'.heap.size W' w') := Lib.hid (fun W' => by
        have := ways_b ub um hum W'
        rw [hW] at this
        exact this)
      have hy2 : y ≤ 16777217 := by omega
      have hsub : (y : Int) + 1 - 1 = (y : Int) := by omega
      clear hrw hu hue hub humm hW hwl hy
      go_upto_region 8 with fail
      obtain ⟨w6, hw6⟩ : ∃ W : World, W = wr.alloc (.cells #[.bool ub, .int .i64 um] 213) := ⟨_, rfl⟩
      obtain ⟨b7, hb7⟩ : ∃ b, b = wr.heap.size := ⟨_, rfl⟩
      have h6 : w6.heap[b7]? = some (.cells #[.bool ub, .int .i64 um] 213 (0, 0)) := by rw [hw6, hb7]; exact alloc_cells _ _ _
      have hb6 : Below wr.heap.size wr w6 := by rw [hw6]; exact (Below.refl _ _).alloc (Nat.le_refl _) _
      have HI6 := Lib.hid (HI.out.kept hb6)
      have y0 : w6.cell? ⟨b7, 0, none⟩ = some (.bool ub) := cell_of h6 rfl
      have y1 : w6.cell? ⟨b7, 1, none⟩ = some (.int .i64 um) := cell_of h6 rfl
      rw [← hw6, ← hb7]
      clear hw6 hb7 h6 hb6 k0 k1
      go_wp2_with (first | (go_at_call 138; refine (HWAY.out _).mono ?_; rintro e wa ⟨rfl, hba⟩; have HIA := Lib.hid (HI6.out.kept hba); clear hba) | (at_builtin; refine wpList_append_new rfl (.tmp 18) (.tmp 22) 209 2 rfl Try.underlying209 info_i64 rfl (by omega) HIA.out (by omega) [.int .i64 (y : Int)] rfl (HONE.out _) rfl rfl ?_; intro oa9 c9 w9 HN9 HK9))
      exact ⟨⟨j + 1, oa9, c9, by omega, by simp, rfl, Lib.hid (by rw [HCS.out]; exact HN9.out)⟩, by simp [intOf]; omega⟩
    · obtain rfl : j = n := by omega
      have hpl : (l.take j) = l := List.take_of_length_le (by rw [HR.out.1]; exact Nat.le_refl _)
      rw [hpl] at HI
      have HRW : Hid (readAt wr 2 (.slice oa j c) j (uCells l)) := Lib.hid (HR.out.2.1.kept (fun k hl _ _ => HI.out.below.block k hl))
      have hws : ∀ x ∈ l.map (fun u => u.ways - 1), x ≤ 4611686018427387904 := fun x hx => by
        obtain ⟨u, hu, rfl⟩ := List.mem_map.1 hx
        have := U0.ways_le (HR.out.2.2 u hu)
        omega
      have hO := of_b HR.out.1 HRW.out hm4 HR.out.2.2 (ws := l.map fun u => u.ways - 1) (by rw [List.length_map]; exact HR.out.1) HI.out.row.read hws
      rw [of_most, List.nil_append] at hO
      have HO := Lib.hid hO
      clear hpl hws hO
      go_wp2_with fail
      refine HO.out.mono ?_
      rintro e w5 ⟨o1, m1, c1, rfl, hm1, hN5⟩
      have hd5 := (H3.out.1.below HI.out.below).below hN5.below
      have hp5 : readAt w5 1 (.slice o1 m1 c1) m1 (intCells (mostP l)) := by
        have := hN5.row.read
        rwa [mostP_cells] at this
      have hml : (mostP l).length = m1 := by unfold mostP; rw [List.length_map]; exact hm1
      have hmx : ∀ x ∈ mostP l, x ≤ 9223372036854775807 := fun x hx => by
        obtain ⟨z, hz, rfl⟩ := List.mem_map.1 hx
        have := mostN_max HR.out.2.2 z hz
        omega
      have hmn := mostN_len l
      have hC := crash_b hd5 o1 c1 (mostP l) (by rw [hml]; exact hp5) (by have := HR.out.1; omega) hmx
      rw [hml] at hC
      have HC := Lib.hid hC
      have hb35 := HI.out.below.trans (hN5.below.mono HI.out.below.size)
      have HB := Lib.hid (H3.out.2.trans (hb35.mono H3.out.2.size))
      clear hd5 hp5 hml hmx hmn hC hN5 hm1 hb35
      go_wp2_with fail
      refine HC.out.mono ?_
      rintro e w8 (⟨hf, -, -⟩ | ⟨-, q2, rfl, hd8, hb8⟩)
      · exact absurd (mostP_ge l) hf
      have HD := Lib.hid (And.intro hd8 hb8)
      clear hd8 hb8
      go_wp2_with fail
      go_ret2
      have hs := HB.out.size
      rw [HL.out]
      exact ⟨q2, rfl, HD.out.1.spread (fun k hk => ⟨by have := hk.1; omega, hk.2⟩) (fun k hk => hk.2), HB.out.trans (HD.out.2.mono hs)⟩
/-- what is read whole -/
theorem read_whole {d : Dk} {f : F0} (hf : d.find f.name = some f) (hok : nameOk f.name = true) (hz : f.bytes.length ≤ 16777216) : d.read f.name 0 16777216 = (f.bytes, 0) := by
  unfold Dk.read
  rw [if_neg (by rw [hok]; simp), hf]
  show (if _ then _ else _) = _
  rw [if_neg (by omega)]
  have e : min (16777216 : Int).toNat (f.bytes.length - (0 : Int).toNat) = f.bytes.length := by
    show min 16777216 (f.bytes.length - 0) = _
    omega
  rw [e, Int.toNat_zero, List.drop_zero, List.take_length]
theorem find_name {d : Dk} {s : List UInt8} {g : F0} (h : d.find s = some g) : g.name = s ∧ g ∈ d.files := by
  unfold Dk.find Dk.at at h
  obtain ⟨h1, _⟩ := Option.filter_eq_some_iff.1 h
  exact ⟨by simpa using List.find?_some h1, List.mem_of_find?_eq_some h1⟩
/-- the j-th name of one disk, read in both -/
theorem begins_reads {a b : Dk} (ha : (a.files.map (·.name)).Pairwise (· < ·)) (hok : ∀ f ∈ a.files, nameOk f.name = true) (hza : ∀ f ∈ a.files, f.bytes.length ≤ 16777216) (hzb : ∀ f ∈ b.files, f.bytes.length ≤ 16777216) (h : Begins a b) {j : Nat} (hj : j < a.names.length) :
    ∃ x y : List UInt8, nameOk a.names[j] = true ∧ a.read a.names[j] 0 16777216 = (x, 0) ∧ b.read a.names[j] 0 16777216 = (y, 0) ∧ x.length ≤ y.length ∧ y.take x.length = x := by
  have hm : a.names[j] ∈ a.names := List.getElem_mem hj
  obtain ⟨f, hf, hfn⟩ := List.mem_map.1 hm
  obtain ⟨hf1, hf2⟩ := List.mem_filter.1 hf
  obtain ⟨g, hg, k, hk⟩ := h f hf1 hf2
  obtain ⟨hgn, hgm⟩ := find_name hg
  have hfa : a.find f.name = some f := findF_mem ha hf1 hf2 a.fates a.steps
  refine ⟨f.bytes, g.bytes, by rw [← hfn]; exact hok f hf1, by rw [← hfn]; exact read_whole hfa (hok f hf1) (hza f hf1), ?_, ?_, ?_⟩
  · rw [← hfn, ← hgn]
    exact read_whole (by rw [hgn]; exact hg) (by rw [hgn]; exact hok f hf1) (hzb g hgm)
  · rw [hk, List.length_take]
    omega
  · rw [hk, List.length_take, ← List.take_take]
    rw [List.take_length]
theorem DiskAt.order_of {w : World} {S : Nat → Prop} {q : Nat} {d : Dk} (h : DiskAt w S q d) : (d.files.map (·.name)).Pairwise (· < ·) ∧ ∀ f ∈ d.files, nameOk f.name = true := by
  obtain ⟨mb, fv, L, h⟩ := h
  exact ⟨h.sorted, h.names⟩
set_option maxRecDepth 100000 in
set_option maxHeartbeats 4000000 in
theorem begins_b {w : World} {Sa Sb : Nat → Prop} {qa qb : Nat} {da db : Dk} (ha : DiskAt w Sa qa da) (hb : DiskAt w Sb qb db) (h : Begins da db) :
    Calls Try.prog 87 #[.pointer (some ⟨qa, 0, none⟩), .pointer (some ⟨qb, 0, none⟩)] w fun e w' => e = .returned (.bool true) ∧ Below w.heap.size w w' := by
  have HA := Lib.hid ha
  have HB := Lib.hid hb
  have HP := Lib.hid (fun (j : Nat) (hj : j < da.names.length) => begins_reads ha.order_of.1 ha.order_of.2 (fun f hf => (ha.sizes.2 f hf).2) (fun f hf => (hb.sizes.2 f hf).2) h hj)
  have hN4 : da.names.length ≤ 4096 := by
    have h1 := ha.sizes.1
    have h2 := List.length_filter_le (fun f : F0 => f.there) da.files
    simp only [Dk.names, List.length_map]
    omega
  clear ha hb h
  go_enter Try.func87, Try.ntmps87
  go_wp2_with fail
  refine (Names_b HA.out).mono ?_
  rintro e wn ⟨vn, rfl, hrn, -, hbn⟩
  obtain ⟨on, cn, rfl, _⟩ := hrn.shape
  obtain ⟨N, hN⟩ : ∃ N, da.names.length = N := ⟨_, rfl⟩
  rw [hN] at hrn hN4 ⊢
  have HRN := Lib.hid (And.intro hrn hN)
  have HBN := Lib.hid hbn
  clear hrn hbn hN
  go_wp2_with fail
  go_loopw [6] (fun i wr => ∃ (j : Nat), j ≤ N ∧ i = .int .i64 j ∧ Hid (Below wn.heap.size wn wr)) (fun i wr => N - (intOf i).toNat)
  case atStart => exact ⟨0, Nat.zero_le _, rfl, Lib.hid (Below.refl _ _)⟩
  case round =>
    obtain ⟨j, hj, rfl, HW⟩ := hrel
    by_cases hlt : j < N
    · have hjl : j < da.names.length := by rw [HRN.out.2]; exact hlt
      obtain ⟨x, y, hok, hra, hrb, hlen, htk⟩ := HP.out j hjl
      obtain ⟨s, hs⟩ : ∃ s, da.names[j] = s := ⟨_, rfl⟩
      rw [hs] at hok hra hrb
      have hrw := HRN.out.1.kept (fun k hk => HW.out.block k (HRN.out.1.lt k hk))
      obtain ⟨g, off, rfl⟩ := hrw.addr (by omega)
      obtain ⟨nm, hnm⟩ : ∃ nm : ByteArray, nm = ⟨s.toArray⟩ := ⟨_, rfl⟩
      have hnmd : nm.data.toList = s := by rw [hnm]
      have hnsz : nm.size ≤ maxLen := by rw [hnm]; exact name_len hok
      have hcx : wr.cell? ⟨g, off + j, none⟩ = some (.string nm) := by
        have h1 := hrw.cell1 (i := j) (u := encStr s) (by simp [hjl, hs])
        rw [h1, hnm]
      have hgl : g < wr.heap.size := hrw.lt g rfl
      have hbwr : Below w.heap.size w wr := HBN.out.trans (HW.out.mono HBN.out.size)
      have hr1 := read_b (HA.out.below hbwr) nm hnsz 0 16777216 (by omega) (by omega)
      rw [hnmd, hra] at hr1
      have HR1 := Lib.hid hr1
      have HRB := Lib.hid (And.intro hrb (And.intro hnmd hnsz))
      have HXY := Lib.hid (And.intro hlen htk)
      have HBW := Lib.hid hbwr
      clear hr1 hra hrb hnmd hnsz hlen htk hbwr hok hs hnm hrw hjl
      go_wp2_with fail
      refine HR1.out.mono ?_
      rintro e w5 ⟨v1, rfl, hv1⟩
      have hcx5 : w5.cell? ⟨g, off + j, none⟩ = some (.string nm) := (hv1.2.2.cell (p := ⟨g, off + j, none⟩) hgl).trans hcx
      have hb5 : Below w.heap.size w w5 := HBW.out.trans (hv1.2.2.mono HBW.out.size)
      have hr2 := read_b (HB.out.below hb5) nm HRB.out.2.2 0 16777216 (by omega) (by omega)
      rw [HRB.out.2.1, HRB.out.1] at hr2
      have HR2 := Lib.hid hr2
      have HV1 := Lib.hid hv1
      clear hr2 hv1 hb5 HR1 hcx
      go_wp2_with fail
      refine HR2.out.mono ?_
      rintro e w6 ⟨v2, rfl, hv2⟩
      have hrx : rowAt w6 5 1 v1 x.length (byteCells x) := HV1.out.1.kept (fun k hk => hv2.2.2.block k (HV1.out.1.lt k hk))
      have hry : rowAt w6 5 1 v2 y.length (byteCells y) := hv2.1
      obtain ⟨o1, c1, rfl, hc1⟩ := hrx.shape
      obtain ⟨o2, c2, rfl, hc2⟩ := hry.shape
      obtain ⟨lx, hlx⟩ : ∃ k, x.length = k := ⟨_, rfl⟩
      obtain ⟨ly, hly⟩ : ∃ k, y.length = k := ⟨_, rfl⟩
      have hrt := hry.read.take x.length HXY.out.1
      have hxy := HXY.out.1
      have htx : (byteCells y).take (x.length * 1) = byteCells x := by
        rw [Nat.mul_one]
        have := HXY.out.2
        unfold byteCells
        rw [← List.map_take, this]
      rw [htx] at hrt
      have hcv1 : ∀ k, (convert 79 9 (.slice o1 x.length c1)).run Try.prog (w6.drewN k) = .ok (.string ⟨x.toArray⟩) (w6.drewN k) := fun k => run_string_rd _ 79 9 5 o1 x.length c1 x rfl Try.underlying79 Try.underlying5 Try.underlying9 hrx.read
      have hcv2 : ∀ k, (convert 79 9 (.slice o2 x.length c2)).run Try.prog (w6.drewN k) = .ok (.string ⟨x.toArray⟩) (w6.drewN k) := fun k => run_string_rd _ 79 9 5 o2 x.length c2 x rfl Try.underlying79 Try.underlying5 Try.underlying9 hrt
      obtain ⟨ab, hab⟩ : ∃ a : ByteArray, a = ⟨x.toArray⟩ := ⟨_, rfl⟩
      rw [← hab] at hcv1 hcv2
      rw [hly] at hc2 hxy ⊢
      rw [hlx] at hc1 hxy hcv1 hcv2 ⊢
      have hsl := fun W => run_take o2 ly c2 lx (by omega) (add_zero_map o2) W
      have hgt : decide ((ly : Int) < (lx : Int)) = false := decide_eq_false (by omega)
      have H6 : Hid (Below wn.heap.size wn w6) := Lib.hid (HW.out.trans ((HV1.out.2.2.trans (hv2.2.2.mono HV1.out.2.2.size)).mono HW.out.size))
      clear hrx hry hrt htx hab hlx hly hv2 HR2 hcx5 hgl
      go_wp2_with fail
      go_quiet (fail)
      go_wp2_with fail
      exact ⟨⟨j + 1, by omega, by simp, Lib.hid ⟨H6.out.os, H6.out.tape, H6.out.output, H6.out.size, H6.out.block⟩⟩, by simp [intOf]; omega⟩
    · obtain rfl : j = N := by omega
      go_wp2_with fail
      go_ret
      exact ⟨rfl, HBN.out.trans (HW.out.mono HBN.out.size)⟩
end Go.Proofs.Ytmkjejngnahpeaa
