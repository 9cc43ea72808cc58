/- The texts Kd, Ke, Kf, Gc, Kg, Kr in one. -/
import Derived.Test.YtmkjejngnahpeaaV11
import Derived.Sort.LoopGhostIn
import Derived.Lib.QuietBelowIn
import Derived.Test.YtmkjejngnahpeaaV5
import Derived.Test.YtmkjejngnahpeaaV6
/- stops: going over all ways. -/
namespace Go.Proofs.Ytmkjejngnahpeaa
open Go Go.Maps Go.RowKit Go.Shelf Go.Sort
attribute [local go_sem] Oper.semAt_some

/-- a slice -/
structure SlV where
  oa : Option Addr
  n : Nat
  c : Nat
def encW (x : SlV) : Array Value := #[.agg #[.slice x.oa x.n x.c]]
/-- the picks of the j-th way lie there, apart from T -/
def PkAt (us : List U0) (n₀ : Nat) (T : Nat → Prop) (j : Nat) (x : SlV) (W : World) : Prop :=
  (ofT us (digT us j) []).length = x.n ∧ rowAt W 3 1 (.slice x.oa x.n x.c) x.n (natCells (ofT us (digT us j) [])) ∧ ∀ k, (Value.slice x.oa x.n x.c).ownBlock = some k → n₀ ≤ k ∧ ¬ T k
/-- what stands while the ways are gone over -/
structure WaysI (J : (Nat → Prop) → Nat → World → Prop) (w V : World) (wb N k : Nat) (row : List Nat) : Prop where
  j : J (fun i => i = wb) k V
  row : rowAt V 2 1 (.slice (some ⟨wb, 0, none⟩) N N) N (natCells row)
  below : Below w.heap.size w V
  size : wb < V.heap.size
  low : w.heap.size ≤ wb
section
variable {J : (Nat → Prop) → Nat → World → Prop} {w V V' : World} {wb N k : Nat} {row : List Nat}
theorem WaysI.grown (h : WaysI J w V wb N k row) (hJ : ∀ T j A B, J T j A → Only T A B → J T j B) (hb : Below V.heap.size V V') : WaysI J w V' wb N k row :=
  ⟨hJ _ _ _ _ h.j (Only.of_below hb (Nat.le_refl _) _), h.row.kept (fun k hk => hb.block k (h.row.lt k hk)), h.below.trans (hb.mono h.below.size), Nat.lt_of_lt_of_le h.size hb.size, h.low⟩
theorem WaysI.digit (h : WaysI J w V wb N k row) (hJ : ∀ T j A B, J T j A → Only T A B → J T j B) {i : Nat} (hi : i < N) (r : Nat) : WaysI J w (V.setCell ⟨wb, i, none⟩ (.int .i64 r)) wb N k (row.set i r) := by
  have ho : Only (fun j => j = wb) V (V.setCell ⟨wb, i, none⟩ (.int .i64 r)) := only_setCell _ _ _ _ _ rfl
  refine ⟨hJ _ _ _ _ h.j ho, ?_, h.below.setCell (p := ⟨wb, i, none⟩) h.low _, Nat.lt_of_lt_of_le h.size ho.size, h.low⟩
  have h1 := h.row.setAt (j := i) (by omega) (.int .i64 r)
  rw [Nat.zero_add] at h1
  have e : natCells (row.set i r) = (natCells row).set i (.int .i64 r) := by unfold natCells; rw [List.map_set]
  rw [e]
  exact h1
end
set_option maxRecDepth 100000 in
set_option maxHeartbeats 4000000 in
theorem waysIn (n : Nat) (hn : 1 ≤ n) (l b3 b4 : Nat) (w : World) (us : List U0) (hwo : WaysOf w b3 b4 us) (hlen : us.length ≤ 4096) (hsm : ∀ u ∈ us, u.more ≤ 16777216) (J Jx : (Nat → Prop) → Nat → World → Prop) (W : World) (hW : Below w.heap.size w W)
    (hs : ∀ T W1, Below W.heap.size W W1 → (∀ k, T k → W.heap.size ≤ k ∧ k < W1.heap.size) → J T 0 W1)
    (hJ : ∀ T j A B, J T j A → Only T A B → J T j B)
    (hY : ∀ T j x Wp W1, (∀ k, T k → W.heap.size ≤ k ∧ k < W1.heap.size) → J T j Wp → Only T Wp W1 → W.heap.size ≤ Wp.heap.size → PkAt us Wp.heap.size T j x W1 → j < prodW us → YieldAt Fence.wide (n - 1) Try.prog l (encW x) W1 fun e W' =>
      (e = .returned (.bool true) ∧ J T (j + 1) W' ∧ KeptR w.heap.size T W1 W') ∨ (e = .returned (.bool false) ∧ Jx T (j + 1) W' ∧ KeptR w.heap.size T W1 W')) :
    CallsIn Fence.wide n Try.prog 141 #[.func (.yield l) #[] #[], .pointer (some ⟨b3, 0, none⟩), .pointer (some ⟨b4, 0, none⟩)] W fun e W' => (∃ v, e = .returned v) ∧ ((∃ T, J T (prodW us) W') ∨ ∃ T j, j ≤ prodW us ∧ Jx T j W') := by
  obtain ⟨h3, v, hv, hrow⟩ := hwo
  obtain ⟨oa, c, rfl, hnc⟩ := hrow.shape
  obtain ⟨N, hN⟩ : ∃ N, us.length = N := ⟨_, rfl⟩
  rw [hN] at hv hrow hnc hlen
  have hwt : ∀ V, Below w.heap.size w V → V.cell? ⟨b3, 0, none⟩ = some (.bool true) ∧ V.cell? ⟨b4, 0, none⟩ = some (.slice oa N c) ∧ rowAt V 213 2 (.slice oa N c) N (uCells us) := fun V hV =>
    ⟨cell_of ((hV.block b3 (Array.getElem?_eq_some_iff.1 h3).1).trans h3) rfl, cell_of ((hV.block b4 (Array.getElem?_eq_some_iff.1 hv).1).trans hv) rfl, hrow.kept (fun k hk => hV.block k (hrow.lt k hk))⟩
  obtain ⟨c3, c4, -⟩ := hwt W hW
  have HT := Lib.hid hwt
  have HN := Lib.hid (And.intro hN hsm)
  have HW := Lib.hid hW
  have HST := Lib.hid hs
  have HJ := Lib.hid hJ
  have HY := Lib.hid hY
  clear hwt h3 hv hrow hN hsm hW hs hJ hY
  have f1 : Fence.wide.fn 140 := trivial
  have f2 : Fence.wide.fn 138 := trivial
  refine callsIn_of_wp Try.func141 rfl trivial ?_ rfl
  simp only [Try.ntmps141, List.size_toArray, List.length_cons, List.length_nil, Nat.reduceAdd, Nat.reduceSub, Array.replicate_succ, Array.replicate_zero, List.push_toArray, List.append_toArray, List.nil_append, List.cons_append]
  gi_wp2_with (gi_at_make; refine wpListIn_make_zeros _ rfl (.tmp 9) (.tmp 9) rfl (m := N) (by omega) rfl rfl ?_; intro w1 HN1 HB1)
  obtain ⟨wb, hwb⟩ : ∃ b, b = W.heap.size := ⟨_, rfl⟩
  rw [← hwb]
  have HI1 : Hid (WaysI J w w1 wb N 0 (digT us 0)) := Lib.hid (by
    have hlt : wb < w1.heap.size := by
      have := HN1.out.row.lt W.heap.size rfl
      omega
    refine ⟨HST.out _ _ HB1.out (fun k hk => ?_), ?_, HW.out.trans (HB1.out.mono HW.out.size), hlt, by rw [hwb]; exact HW.out.size⟩
    · have hk' : k = wb := hk
      subst hk'
      exact ⟨by omega, hlt⟩
    · rw [digT_zero, HN.out.1, hwb]
      exact HN1.out.row)
  have HWB := Lib.hid hwb
  clear hwb HN1 HB1 c3 c4
  gi_loopg [5] (prodW us) (fun g _ wr => ∃ k, g + k = prodW us ∧ 0 < g ∧ Hid (WaysI J w wr wb N k (digT us k)))
  case atStart => exact ⟨0, by omega, prodW_pos us, HI1⟩
  case round =>
    obtain ⟨k, hgk, hg0, HI⟩ := hrel
    obtain ⟨-, c4, hrw⟩ := HT.out wr HI.out.below
    have HRW := Lib.hid hrw
    have HOF : Hid (∀ x ∈ digT us k, x ≤ 4611686018427387904) := Lib.hid (fun x hx => by
      obtain ⟨j, hj, rfl⟩ := List.getElem_of_mem hx
      have hj' : j < us.length := by rwa [digT_len] at hj
      have h1 := digT_lt us k j hj' hj
      have h2 := U0.ways_le (HN.out.2 _ (List.getElem_mem hj'))
      omega)
    clear hrw
    gi_wp2_with fail
    refine (callsIn_wide.2 (of_b HN.out.1 HRW.out.read (by omega) HN.out.2 (by rw [digT_len, HN.out.1]) HI.out.row.read HOF.out)).mono ?_
    rintro e w2 ⟨o1, m1, cc1, rfl, hm1, hX⟩
    have hI2 := HI.out.grown HJ.out hX.below
    have hyy := HY.out (fun i => i = wb) k ⟨o1, m1, cc1⟩ wr w2 (fun i hi => by
      have hi' : i = wb := hi
      subst hi'
      exact ⟨by rw [HWB.out]; exact Nat.le_refl _, hI2.size⟩) HI.out.j (Only.of_below hX.below (Nat.le_refl _) _) (by have h3 := HI.out.size; have h4 := HWB.out; omega) ⟨hm1, hX.row, fun i hi => by
      have h1 := hX.own i hi
      have h2 := HI.out.below.size
      have h3 := HI.out.size
      have h4 := HWB.out
      exact ⟨by omega, fun e => by have e' : i = wb := e; omega⟩⟩ (by omega)
    obtain ⟨fn, tmps, assign, body, hy, hR⟩ := hyy
    have hy' : (Instr.yield l #[.agg #[.slice o1 m1 cc1]]).run Try.prog w2 = .ok (.round l fn tmps assign body) w2 := hy
    have HRD := Lib.hid hR
    have HI2 := Lib.hid hI2
    clear hy hR hI2 hX hm1 c4
    gi_wp2_with fail
    refine HRD.out.mono ?_
    rintro e W3 (⟨rfl, hJ3, hk3⟩ | ⟨rfl, hJx3, -⟩)
    · have HI3 : Hid (WaysI J w W3 wb N (k + 1) (rowM us k N)) := Lib.hid (by
        have hrow := rowM_full us k
        rw [HN.out.1] at hrow
        rw [hrow]
        refine ⟨hJ3, HI2.out.row.kept (fun i hi => ?_), HI2.out.below.trans (hk3.below (fun i hi h => by omega) HI2.out.below.size), Nat.lt_of_lt_of_le HI2.out.size hk3.size, HI2.out.low⟩
        simp only [Value.ownBlock, Option.some.injEq] at hi
        subst hi
        exact hk3.block _ HI2.out.size (fun h => h.2 rfl))
      obtain ⟨-, c4, -⟩ := HT.out W3 HI3.out.below
      have HEND : Hid (EndsFrom us k N) := Lib.hid (by have := ends_full us k; rwa [HN.out.1] at this)
      clear hJ3 hk3 hy'
      gi_wp2_with fail
      gi_loopw [5] (fun i wi => ∃ m : Nat, i = .int .i64 ((m : Int) - 1) ∧ m ≤ N ∧ Hid (WaysI J w wi wb N (k + 1) (rowM us k m)) ∧ Hid (EndsFrom us k m)) (fun i _ => (intOf i + 1).toNat)
      case atStart => exact ⟨N, rfl, Nat.le_refl _, HI3, HEND⟩
      case round =>
        obtain ⟨m, rfl, hm, HI4, HE4⟩ := hrel
        obtain ⟨-, c4, hrw⟩ := HT.out wr HI4.out.below
        have cQ4 := cell_regrown c4
        cases m with
        | zero =>
          have hneg : ((0 : Nat) : Int) - 1 = -1 := rfl
          rw [hneg]
          have HE : Hid (k + 1 = prodW us) := Lib.hid (by
            have h1 := HE4.out
            unfold EndsFrom at h1
            rw [List.drop_zero, Nat.mod_eq_of_lt (by omega)] at h1
            exact h1)
          clear hrw hneg c4
          gi_wp2_with fail
          refine wpIn_region_quiet_below rfl (by kernel_rfl) (by kernel_rfl) ?_
          repeat (quiet_step_in (fail))
          refine wpQuietIn_nil ?_
          intro _ hw'
          obtain ⟨⟨dq, osq⟩, hw''⟩ := hw'
          subst hw''
          have HI5 := Lib.hid (HI4.out.grown HJ.out (below_regrown wr dq osq))
          gi_wp2_with fail
          refine bodyPost_ret (results_none rfl _ _ _) rfl ?_
          exact ⟨⟨_, rfl⟩, .inl ⟨_, by rw [← HE.out]; exact HI5.out.j⟩⟩
        | succ j =>
          have hj : j < us.length := by rw [HN.out.1]; omega
          have hjj : ((j + 1 : Nat) : Int) - 1 = (j : Int) := by omega
          rw [hjj]
          obtain ⟨u, hu⟩ : ∃ u, us[j] = u := ⟨_, rfl⟩
          have hum : u.more ≤ 16777216 := HN.out.2 u (by rw [← hu]; exact List.getElem_mem _)
          obtain ⟨g2, off, rfl⟩ := hrw.addr (by omega)
          obtain ⟨r, hr⟩ : ∃ r, k / prodW (us.drop (j + 1)) % us[j].ways = r := ⟨_, rfl⟩
          have hrl : r < us[j].ways := by rw [← hr]; exact Nat.mod_lt _ us[j].ways_pos
          have hwl : us[j].ways ≤ 16777218 := U0.ways_le (by rw [hu]; exact hum)
          obtain ⟨ub, hub⟩ : ∃ b, u.name = b := ⟨_, rfl⟩
          obtain ⟨um, humm⟩ : ∃ m, u.more = m := ⟨_, rfl⟩
          have hue : u = ⟨ub, um⟩ := by rw [← hub, ← humm]
          have k00 : wr.cell? ⟨g2, off + j * 2, none⟩ = some (.bool ub) := us_cell (i := 0) hrw.read hj (by omega) (by rw [hu, hue]; rfl)
          have k0 := cell_regrown k00
          have k1 := cell_regrown (us_cell (i := 1) hrw.read hj (by omega) (by rw [hu, hue]; rfl) : wr.cell? ⟨g2, off + j * 2 + 1, none⟩ = some (.int .i64 um))
          have kd0 : wr.cell? ⟨wb, j, none⟩ = some (.int .i64 r) := by
            have := HI4.out.row.read.cellAt (i := j) (u := .int .i64 r) (by unfold natCells; rw [List.getElem?_map, rowM_get hj, hr]; rfl)
            simpa using this
          have kd := cell_regrown kd0
          obtain ⟨Wy, hWy⟩ : ∃ x, (U0.mk ub um).ways = x := ⟨_, rfl⟩
          have hWu : us[j].ways = Wy := by rw [hu, hue, hWy]
          have cQ : ∀ d os, CallsIn Fence.wide (n - 1) Try.prog 138 #[.agg #[.bool ub, .int .i64 um]] (grow (redrawn wr d) os) fun e w'' => e = .returned (.int .i64 Wy) ∧ ∃ p : Regrown, w'' = grow (redrawn wr p.d) p.os := fun d os => CallsIn.regrown_of (callsIn_wide.2 (by rw [← hWy]; exact ways_b ub um (by rw [← humm]; exact hum) _))
          rw [hWu] at hr hrl hwl
          have HR := Lib.hid (And.intro hj (And.intro hr hWu))
          clear k00 hrw hjj c4 hu hue hum hub humm hWy hr hWu kd0
          have hjN : j < N := by omega
          have hj0 : ((0 : Int) ≤ (j : Int)) := by omega
          have hd0 : decide ((0 : Int) ≤ (j : Int)) = true := decide_eq_true hj0
          have hjn : (j : Int) < (N : Int) := by omega
          have hwrap : IntKind.i64.wrap ((Wy : Int) - 1) = (Wy : Int) - 1 := by rw [IntKind.wrap_i64]; omega
          by_cases hend : r + 1 = Wy
          · have hd : ((r : Int) == (Wy : Int) - 1) = true := beq_iff_eq.2 (by omega)
            gi_wp2_with fail
            refine wpIn_region_quiet_below rfl (by kernel_rfl) (by kernel_rfl) ?_
            repeat (quiet_step_in (first | exact ⟨fun _ => by omega, cQ _ _⟩ | exact cQ _ _))
            refine wpQuietIn_nil ?_
            intro _ hw'
            obtain ⟨⟨dq, osq⟩, hw''⟩ := hw'
            obtain ⟨w5, hw5⟩ : ∃ V, V = grow (redrawn wr dq) osq := ⟨_, rfl⟩
            have hI5 := HI4.out.grown HJ.out (below_regrown wr dq osq)
            have kd5 := kd dq osq
            subst hw''
            rw [← hw5] at hI5 kd5 ⊢
            have z5 : w5.frozen? ⟨wb, j, none⟩ = false := by have := hI5.row.freeAt (j := j) (by omega); rwa [Nat.zero_add] at this
            have HI5 := Lib.hid hI5
            clear hI5 hw5 kd k0 k1 cQ cQ4 hd hd0 hwrap
            gi_wp2_with fail
            have HI6 := HI5.out.digit HJ.out hjN 0
            rw [rowM_zero HR.out.1] at HI6
            exact ⟨⟨j, by first | rfl | simp, by omega, Lib.hid HI6, Lib.hid (ends_step HR.out.1 HE4.out (by rw [HR.out.2.2, HR.out.2.1]; exact hend))⟩, by first | (simp [intOf]; done) | (simp [intOf]; omega)⟩
          · have hd : ((r : Int) == (Wy : Int) - 1) = false := beq_eq_false_iff_ne.2 (by omega)
            gi_wp2_with fail
            refine wpIn_region_quiet_below rfl (by kernel_rfl) (by kernel_rfl) ?_
            repeat (quiet_step_in (first | exact ⟨fun _ => by omega, cQ _ _⟩ | exact cQ _ _))
            refine wpQuietIn_nil ?_
            intro _ hw'
            obtain ⟨⟨dq, osq⟩, hw''⟩ := hw'
            obtain ⟨w5, hw5⟩ : ∃ V, V = grow (redrawn wr dq) osq := ⟨_, rfl⟩
            have hI5 := HI4.out.grown HJ.out (below_regrown wr dq osq)
            have kd5 := kd dq osq
            subst hw''
            rw [← hw5] at hI5 kd5 ⊢
            have z5 : w5.frozen? ⟨wb, j, none⟩ = false := by have := hI5.row.freeAt (j := j) (by omega); rwa [Nat.zero_add] at this
            have HI5 := Lib.hid hI5
            have HEN := Lib.hid hend
            have hneg : ¬ ((j : Int) < 0) := by omega
            clear hI5 hw5 kd k0 k1 cQ cQ4 hd hd0 hwrap hend
            gi_wp2_with fail
            have HI6 := HI5.out.digit HJ.out hjN (r + 1)
            have hnx := rowM_next HR.out.1 HE4.out (by rw [HR.out.2.2, HR.out.2.1]; exact HEN.out)
            rw [HR.out.2.2, HR.out.2.1] at hnx
            rw [hnx] at HI6
            have hlt : 0 < gk - 1 := by
              refine Nat.pos_of_ne_zero (fun e => HEN.out ?_)
              have h1 := last_digit HR.out.1 (show k + 1 = prodW us by omega)
              rw [HR.out.2.2, HR.out.2.1] at h1
              exact h1
            gi_roundg (gk - 1)
            case measure => omega
            case rel => exact ⟨k + 1, by omega, hlt, Lib.hid HI6⟩
    · have HX3 : Hid (Jx (fun i => i = wb) (k + 1) W3) := Lib.hid hJx3
      clear hJx3 hy'
      gi_wp2_with fail
      refine bodyPost_ret (results_none rfl _ _ _) rfl ?_
      exact ⟨⟨_, rfl⟩, .inr ⟨_, k + 1, by omega, HX3.out⟩⟩
end Go.Proofs.Ytmkjejngnahpeaa
/- stops: Images of a disk that is there: what each way leaves. -/
namespace Go.Proofs.Ytmkjejngnahpeaa
open Go Go.Maps Go.RowKit Go.Shelf Go.Sort
attribute [local go_sem] Oper.semAt_some

theorem ways_told (n : Nat) (hn : 1 ≤ n) (b3 b4 : Nat) (w : World) (us : List U0) (hwo : WaysOf w b3 b4 us) (hlen : us.length ≤ 4096) (hsm : ∀ u ∈ us, u.more ≤ 16777216) :
    SeqTold Fence.wide n Try.prog 141 #[.pointer (some ⟨b3, 0, none⟩), .pointer (some ⟨b4, 0, none⟩)] encW (fun m T pre x W => PkAt us m T pre.length x W) (fun xs => xs.length = prodW us) (fun pre => pre.length ≤ prodW us) (prodW us) w := fun l J Jx W hW hs hJ _ hY => by
  refine (waysIn n hn l b3 b4 w us hwo hlen hsm (fun T j V => ∃ pre, pre.length = j ∧ J T pre V) (fun T j V => ∃ pre, pre.length = j ∧ Jx T pre V) W hW (fun T W1 h1 h2 => ⟨[], rfl, hs T W1 h1 h2⟩) ?_ ?_).mono ?_
  · rintro T j A B ⟨pre, h1, h2⟩ ho
    exact ⟨pre, h1, hJ T pre A B h2 ho⟩
  · rintro T j x Wp W1 hT ⟨pre, rfl, hj⟩ ho hz hpk hlt
    refine (hY T pre x Wp W1 hT hj ho hz hpk hlt).mono (fun e W' hr => ?_)
    rcases hr with ⟨h1, h2, h3⟩ | ⟨h1, h2, h3⟩
    · exact .inl ⟨h1, ⟨_, by simp, h2⟩, h3⟩
    · exact .inr ⟨h1, ⟨_, by simp, h2⟩, h3⟩
  · rintro e W' ⟨he, ⟨T, pre, h1, h2⟩ | ⟨T, j, hj, pre, rfl, h2⟩⟩
    · exact ⟨he, .inl ⟨T, pre, h1, h2⟩⟩
    · exact ⟨he, .inr ⟨T, pre, hj, h2⟩⟩
def imagesV (bs bm : Nat) : Value := .func (.func 142) #[] #[.pointer (some ⟨bs, 0, none⟩), .pointer (some ⟨bm, 0, none⟩)]
/-- the iterator's two variables: the ways; the disk -/
def ImagesOf (w : World) (bs bm : Nat) (us : List U0) (d : Dk) : Prop :=
  ∃ b3 b4 qo S, w.heap[bs]? = some (.cells #[allV b3 b4] 140 (0, 0)) ∧ w.heap[bm]? = some (.cells #[.pointer (some ⟨qo, 0, none⟩)] 37 (0, 0)) ∧ WaysOf w b3 b4 us ∧ DiskAt w S qo d
theorem ImagesOf.below {w w' : World} {bs bm : Nat} {us : List U0} {d : Dk} (h : ImagesOf w bs bm us d) (hb : Below w.heap.size w w') : ImagesOf w' bs bm us d := by
  obtain ⟨b3, b4, qo, S, h1, h2, h3, h4⟩ := h
  exact ⟨b3, b4, qo, S, (hb.block bs (Array.getElem?_eq_some_iff.1 h1).1).trans h1, (hb.block bm (Array.getElem?_eq_some_iff.1 h2).1).trans h2, h3.below hb, h4.below hb⟩
/-- .. and all of it is newer than n0 -/
def ImagesNew (n0 : Nat) (w : World) (bs bm : Nat) (us : List U0) (d : Dk) : Prop :=
  n0 ≤ bs ∧ n0 ≤ bm ∧ ∃ b3 b4 qo S, w.heap[bs]? = some (.cells #[allV b3 b4] 140 (0, 0)) ∧ w.heap[bm]? = some (.cells #[.pointer (some ⟨qo, 0, none⟩)] 37 (0, 0)) ∧ WaysNew n0 w b3 b4 us ∧ DiskAt w S qo d ∧ ∀ k, S k → n0 ≤ k
theorem ImagesNew.images {n0 : Nat} {w : World} {bs bm : Nat} {us : List U0} {d : Dk} (h : ImagesNew n0 w bs bm us d) : ImagesOf w bs bm us d := by
  obtain ⟨-, -, b3, b4, qo, S, h1, h2, h3, h4, -⟩ := h
  exact ⟨b3, b4, qo, S, h1, h2, h3.ways, h4⟩
theorem ImagesNew.only {n0 : Nat} {w w' : World} {bs bm : Nat} {us : List U0} {d : Dk} {X : Nat → Prop} (h : ImagesNew n0 w bs bm us d) (ho : Only X w w') (hX : ∀ k, X k → k < n0) : ImagesNew n0 w' bs bm us d := by
  obtain ⟨t1, t2, b3, b4, qo, S, h1, h2, h3, h4, h5⟩ := h
  refine ⟨t1, t2, b3, b4, qo, S, (ho.block bs (Array.getElem?_eq_some_iff.1 h1).1 (fun e => by have := hX _ e; omega)).trans h1, (ho.block bm (Array.getElem?_eq_some_iff.1 h2).1 (fun e => by have := hX _ e; omega)).trans h2, h3.only ho hX, ?_, h5⟩
  obtain ⟨mb, fv, L, h⟩ := h4
  exact ⟨mb, fv, L, h.only ho (fun k hk e => by have := hX _ e; have := h5 k hk; omega)⟩
theorem ImagesNew.below {n0 : Nat} {w w' : World} {bs bm : Nat} {us : List U0} {d : Dk} (h : ImagesNew n0 w bs bm us d) (hb : Below w.heap.size w w') : ImagesNew n0 w' bs bm us d :=
  h.only (Only.of_below hb (Nat.le_refl _) (fun _ => False)) (fun _ hf => hf.elim)
set_option maxRecDepth 100000 in
set_option maxHeartbeats 1000000 in
theorem sImages_new {w : World} {S : Nat → Prop} {q : Nat} {d : Dk} (h : DiskAt w S q d) (hfm : d.fates.length ≤ 1000000000) :
    Calls Try.prog 81 #[.pointer (some ⟨q, 0, none⟩)] w fun e w' => ∃ bs bm, e = .returned (imagesV bs bm) ∧ ImagesNew w.heap.size w' bs bm (unsT d.files) d ∧ Below w.heap.size w w' := by
  have H := Lib.hid h
  clear h
  go_enter Try.func81, Try.ntmps81
  go_wp2_with fail
  refine (sAll_new H.out hfm).mono ?_
  rintro e w1 ⟨b3, b4, rfl, hn, hb1⟩
  unfold allV
  obtain ⟨w2, hw2⟩ : ∃ W : World, W = w1.alloc (.cells #[.func (.func 141) #[] #[.pointer (some ⟨b3, 0, none⟩), .pointer (some ⟨b4, 0, none⟩)]] 140) := ⟨_, rfl⟩
  obtain ⟨bs, hbs⟩ : ∃ b, b = w1.heap.size := ⟨_, rfl⟩
  have hs2 : w2.heap[bs]? = some (.cells #[allV b3 b4] 140 (0, 0)) := by rw [hw2, hbs]; exact alloc_cells _ _ _
  have hb12 : Below w1.heap.size w1 w2 := by rw [hw2]; exact (Below.refl _ _).alloc (Nat.le_refl _) _
  have HSZ : Hid (w.heap.size ≤ bs ∧ w.heap.size ≤ w2.heap.size) := Lib.hid ⟨by rw [hbs]; exact hb1.size, (hb1.trans (hb12.mono hb1.size)).size⟩
  have H2 := Lib.hid (And.intro ((H.out.below hb1).below hb12) (And.intro hs2 (And.intro (hn.below hb12) (hb1.trans (hb12.mono hb1.size)))))
  clear hs2 hb12 hn hb1
  go_upto_region 2 with fail
  rw [← hw2, ← hbs]
  clear hw2 hbs
  go_wp2_with fail
  refine (copy_b H2.out.1 hfm).mono ?_
  rintro e w3 ⟨qo, rfl, hd3, hb3⟩
  have H3 := Lib.hid (And.intro hd3 hb3)
  clear hd3 hb3
  go_wp2_with fail
  go_ret
  have hb4 : Below w3.heap.size w3 (w3.alloc (.cells #[.pointer (some ⟨qo, 0, none⟩)] 37)) := (Below.refl _ _).alloc (Nat.le_refl _) _
  have hb24 := H3.out.2.trans (hb4.mono H3.out.2.size)
  exact ⟨bs, w3.heap.size, rfl, ⟨HSZ.out.1, by have := H3.out.2.size; have := HSZ.out.2; omega, b3, b4, qo, _, (hb24.block bs (Array.getElem?_eq_some_iff.1 H2.out.2.1).1).trans H2.out.2.1, alloc_cells _ _ _, H2.out.2.2.1.below hb24, H3.out.1.below hb4, fun k hk => by have := hk.1; have := HSZ.out.2; omega⟩, H2.out.2.2.2.trans (hb24.mono H2.out.2.2.2.size)⟩
theorem sImages_b {w : World} {S : Nat → Prop} {q : Nat} {d : Dk} (h : DiskAt w S q d) (hfm : d.fates.length ≤ 1000000000) :
    Calls Try.prog 81 #[.pointer (some ⟨q, 0, none⟩)] w fun e w' => ∃ bs bm, e = .returned (imagesV bs bm) ∧ ImagesOf w' bs bm (unsT d.files) d ∧ Below w.heap.size w w' :=
  (sImages_new h hfm).mono (fun _ _ ⟨bs, bm, h1, h2, h3⟩ => ⟨bs, bm, h1, h2.images, h3⟩)
/-- a slice and a disk -/
structure ImV where
  s : SlV
  q : Nat
def encI (x : ImV) : Array Value := #[.agg #[.slice x.s.oa x.s.n x.s.c], .pointer (some ⟨x.q, 0, none⟩)]
/-- the picks of the j-th way -/
def picksOf (us : List U0) (j : Nat) : List Int := (ofT us (digT us j) []).map fun (x : Nat) => (x : Int)
theorem picksOf_cells (us : List U0) (j : Nat) : natCells (ofT us (digT us j) []) = intCells (picksOf us j) := by
  unfold natCells intCells picksOf
  rw [List.map_map]
  rfl
theorem picksOf_ge (us : List U0) (j : Nat) : AllGe (picksOf us j) := fun x hx => by
  obtain ⟨y, _, rfl⟩ := List.mem_map.1 hx
  exact Int.natCast_nonneg y
theorem ofT_len : ∀ (l : List U0) (ws out : List Nat), (ofT l ws out).length ≤ out.length + 2 * l.length
  | [], ws, out => by
    cases ws <;> simp [ofT]
  | u :: l, [], out => by simp only [ofT]; omega
  | u :: l, x :: r, out => by
    have h1 := ofT_len l r (ofStep out u x)
    have h2 := ofStep_len out u x
    simp only [ofT, List.length_cons]
    omega
theorem ofT_small {M : Nat} (hM : 1 ≤ M) : ∀ (l : List U0) (ws out : List Nat), (∀ x ∈ ws, x ≤ M) → (∀ x ∈ out, x ≤ M) → ∀ x ∈ ofT l ws out, x ≤ M
  | [], ws, out, _, h => by
    cases ws <;> exact h
  | u :: l, [], out, _, h => h
  | u :: l, y :: r, out, hw, h => by
    refine ofT_small hM l r (ofStep out u y) (fun x hx => hw x (List.mem_cons_of_mem _ hx)) (fun x hx => ?_)
    have hy := hw y (List.mem_cons_self ..)
    unfold ofStep at hx
    split at hx
    · split at hx
      · rcases List.mem_append.1 hx with h1 | h1
        · exact h x h1
        · simp only [List.mem_singleton] at h1; omega
      · split at hx
        · rcases List.mem_append.1 hx with h1 | h1
          · rcases List.mem_append.1 h1 with h2 | h2
            · exact h x h2
            · simp only [List.mem_singleton] at h2; omega
          · simp only [List.mem_singleton] at h1; omega
        · rcases List.mem_append.1 hx with h1 | h1
          · exact h x h1
          · simp only [List.mem_singleton] at h1; omega
    · split at hx
      · rcases List.mem_append.1 hx with h1 | h1
        · exact h x h1
        · simp only [List.mem_singleton] at h1; omega
      · exact h x hx
theorem picksOf_len {us : List U0} (hlen : us.length ≤ 4096) (j : Nat) : (picksOf us j).length ≤ 10000 := by
  unfold picksOf
  rw [List.length_map]
  have := ofT_len us (digT us j) []
  simp only [List.length_nil] at this
  omega
theorem picksOf_max {us : List U0} (hsm : ∀ u ∈ us, u.more ≤ 16777216) (j : Nat) : ∀ x ∈ picksOf us j, x ≤ 16777218 := fun x hx => by
  obtain ⟨y, hy, rfl⟩ := List.mem_map.1 hx
  have := ofT_small (M := 16777218) (by omega) us (digT us j) [] (fun z hz => by
    obtain ⟨i, hi, rfl⟩ := List.getElem_of_mem hz
    have hi' : i < us.length := by rwa [digT_len] at hi
    have h1 := digT_lt us j i hi' hi
    have h2 := U0.ways_le (hsm _ (List.getElem_mem hi'))
    omega) (fun z hz => by cases hz) y hy
  omega
/-- the j-th way's picks, and the disk that it leaves, lie there apart from T -/
def ImAt (us : List U0) (d : Dk) (n₀ : Nat) (T : Nat → Prop) (j : Nat) (x : ImV) (W : World) : Prop :=
  PkAt us n₀ T j x.s W ∧ ∃ S, DiskAt W S x.q (d.crash (picksOf us j)) ∧ ∀ k, S k → n₀ ≤ k ∧ ¬ T k
end Go.Proofs.Ytmkjejngnahpeaa
/- stops: going over what each way leaves. -/
namespace Go.Proofs.Ytmkjejngnahpeaa
open Go Go.Maps Go.RowKit Go.Shelf Go.Sort
attribute [local go_sem] Oper.semAt_some

/-- the blocks that are Images' own: from B on three, and the ways' T -/
def imT (B : Nat) (T : Nat → Prop) : Nat → Prop := fun k => T k ∨ k = B ∨ k = B + 1 ∨ k = B + 2
set_option maxRecDepth 100000 in
set_option maxHeartbeats 4000000 in
theorem imagesIn (n : Nat) (hn : 3 ≤ n) (l bs bm : Nat) (w : World) (us : List U0) (d : Dk) (him : ImagesOf w bs bm us d) (hlen : us.length ≤ 4096) (hsm : ∀ u ∈ us, u.more ≤ 16777216)
    (J Jx : (Nat → Prop) → Nat → World → Prop) (W : World) (hW : Below w.heap.size w W)
    (hs : ∀ T W1, Below W.heap.size W W1 → (∀ k, T k → W.heap.size ≤ k ∧ k < W1.heap.size) → J T 0 W1)
    (hJ : ∀ T j A B, J T j A → Only T A B → J T j B) (hJx : ∀ T j A B, Jx T j A → Only T A B → Jx T j B)
    (hY : ∀ T j x Wp W1, (∀ k, T k → W.heap.size ≤ k ∧ k < W1.heap.size) → J T j Wp → Only T Wp W1 → W.heap.size ≤ Wp.heap.size → ImAt us d Wp.heap.size T j x W1 → j < prodW us → YieldAt Fence.wide (n - 1) Try.prog l (encI x) W1 fun e W' =>
      (e = .returned (.bool true) ∧ J T (j + 1) W' ∧ KeptR w.heap.size T W1 W') ∨ (e = .returned (.bool false) ∧ Jx T (j + 1) W' ∧ KeptR w.heap.size T W1 W')) :
    CallsIn Fence.wide n Try.prog 142 #[.func (.yield l) #[] #[], .pointer (some ⟨bs, 0, none⟩), .pointer (some ⟨bm, 0, none⟩)] W fun e W' => (∃ v, e = .returned v) ∧ ((∃ T, J T (prodW us) W') ∨ ∃ T j, j ≤ prodW us ∧ Jx T j W') := by
  obtain ⟨b3, b4, qo, S, hbs, hbm, hwo, hd⟩ := him
  have f1 : Fence.wide.fn 40 := trivial
  refine callsIn_of_wp_marks Try.func142 rfl trivial ?_ rfl
  simp only [Try.ntmps142, List.size_toArray, List.length_cons, List.length_nil, Nat.reduceAdd, Nat.reduceSub, Array.replicate_succ, Array.replicate_zero, List.push_toArray, List.append_toArray, List.nil_append, List.cons_append]
  obtain ⟨w1, hw1⟩ : ∃ V : World, V = W.alloc (.cells #[.func (.yield l) #[] #[]] 219) := ⟨_, rfl⟩
  have hb1 : Below W.heap.size W w1 := by rw [hw1]; exact (Below.refl _ _).alloc (Nat.le_refl _) _
  have hs1 : w1.heap.size = W.heap.size + 1 := by rw [hw1]; simp
  have hbx : w1.heap[W.heap.size]? = some (.cells #[.func (.yield l) #[] #[]] 219 (0, 0)) := by rw [hw1]; exact alloc_cells _ _ _
  have hww1 : Below w.heap.size w w1 := hW.trans (hb1.mono hW.size)
  have hbsz : bs < w.heap.size := (Array.getElem?_eq_some_iff.1 hbs).1
  have c1 : w1.cell? ⟨bs, 0, none⟩ = some (.func (.func 141) #[] #[.pointer (some ⟨b3, 0, none⟩), .pointer (some ⟨b4, 0, none⟩)]) := cell_of ((hww1.block bs hbsz).trans hbs) rfl
  rw [hw1] at c1
  have HM := Lib.hid (And.intro hbm hd)
  have HW := Lib.hid hW
  have H1 := Lib.hid (And.intro hb1 (And.intro hs1 (And.intro hbx hww1)))
  have hst := ways_told (n - 1) (by omega) b3 b4 w us hwo hlen hsm
  have HST := Lib.hid hs
  have HJ := Lib.hid hJ
  have HJX := Lib.hid hJx
  have HY := Lib.hid hY
  clear hbs hbm hd hW hb1 hs1 hbx hww1 hs hJ hJx hY hwo
  gi_wp2_with fail
  rw [← hw1]
  clear c1 hw1
  refine wpIn_rangeFunc_told (n := n) (α := SlV) rfl (by omega) (gf := 141) (lb := #[.pointer (some ⟨b3, 0, none⟩), .pointer (some ⟨b4, 0, none⟩)]) rfl trivial (enters_of Try.func141 (by kernel_rfl) rfl) hst H1.out.2.2.2 (fun _ => rfl)
    (fun T pre V => J (imT W.heap.size T) pre.length V ∧ V.heap[W.heap.size]? = some (.cells #[.func (.yield l) #[] #[]] 219 (0, 0)) ∧ Below w.heap.size w V ∧ ∀ k, T k → W.heap.size + 3 ≤ k)
    (fun c T pre V => c = .ret ∧ pre.length ≤ prodW us ∧ Jx (imT W.heap.size T) pre.length V) ?I ?Ix ?h0 ?round ?done ?stop
  case I =>
    rintro T pre A B ⟨hj, hbx, hbl, hT⟩ ho
    rw [H1.out.2.1] at ho
    have hlow := HW.out.size
    exact ⟨HJ.out _ _ _ _ hj (ho.mono (fun k _ hk => by rcases hk with h | h | h; exact .inl h; exact .inr (.inr (.inl h)); exact .inr (.inr (.inr h)))),
      (ho.block _ (Array.getElem?_eq_some_iff.1 hbx).1 (fun h => by rcases h with h | h | h; (have := hT _ h; omega); omega; omega)).trans hbx,
      hbl.trans (ho.below (fun i hi h => by rcases h with h | h | h; (have := hT _ h; omega); omega; omega) hbl.size), hT⟩
  case Ix =>
    rintro c T pre A B ⟨hc, hp, hj⟩ ho
    rw [H1.out.2.1] at ho
    exact ⟨hc, hp, HJX.out _ _ _ _ hj (ho.mono (fun k _ hk => by rcases hk with h | h | h; exact .inl h; exact .inr (.inr (.inl h)); exact .inr (.inr (.inr h))))⟩
  case h0 =>
    intro T W1 hb hsz hT
    rw [H1.out.2.1] at hsz hT
    have hb' : Below W.heap.size W W1 := H1.out.1.trans (hb.mono H1.out.1.size)
    exact ⟨HST.out _ _ hb' (fun k hk => by rcases hk with h | h | h | h; (have := hT _ h; omega); omega; omega; omega), (hb.block _ (by rw [H1.out.2.1]; omega)).trans H1.out.2.2.1, HW.out.trans (hb'.mono HW.out.size), fun k hk => (hT k hk).1⟩
  case done =>
    rintro T xs V hS ⟨hj, hbx, hbl, hT⟩ hD
    have hS' : xs.length = prodW us := hS
    rw [hS', ] at hj
    have HJD := Lib.hid (And.intro hj hD)
    clear hj hbx hbl hT hD hS hS' hst
    gi_wp2_with fail
    refine ⟨by simp, .inl ⟨_, _, rfl, run_takeDeferred HJD.out.2, ?_⟩⟩
    exact ⟨_, results_none rfl _ _ _, ⟨_, rfl⟩, .inl ⟨imT W.heap.size T, HJ.out _ _ _ _ HJD.out.1 (only_put _ _ _ _ (by rw [H1.out.2.1]; exact .inr (.inr (.inl rfl))))⟩⟩
  case stop =>
    rintro T c pre V hS ⟨rfl, hp, hj⟩ hD
    have HJD := Lib.hid (And.intro hj (And.intro hD hp))
    clear hj hD hp hS hst
    gi_wp2_with fail
    refine ⟨by simp, .inl ⟨_, _, rfl, run_takeDeferred HJD.out.2.1, ?_⟩⟩
    exact ⟨_, results_none rfl _ _ _, ⟨_, rfl⟩, .inr ⟨imT W.heap.size T, pre.length, HJD.out.2.2, HJX.out _ _ _ _ HJD.out.1 (only_put _ _ _ _ (by rw [H1.out.2.1]; exact .inr (.inr (.inl rfl))))⟩⟩
  case round =>
    rintro T pre ⟨oa, xn, c⟩ Wp V hT hrec hdef ⟨hjp, hbxp, hblp, hT3⟩ hop hszp hgv hlt K hK
    rw [H1.out.2.1] at hT hrec hdef hK hszp
    have hlow := HW.out.size
    have hj := HJ.out _ _ _ _ hjp (hop.mono (fun k _ hk => show imT W.heap.size T k from .inl hk))
    have hbx := (hop.block _ (Array.getElem?_eq_some_iff.1 hbxp).1 (fun h => by have := hT3 _ h; omega)).trans hbxp
    have hbl := hblp.trans (hop.below (fun i hi h => by have := hT3 _ h; omega) hblp.size)
    have HWP := Lib.hid (And.intro hjp (And.intro hop hszp))
    clear hjp hbxp hblp hop hszp hlow
    obtain ⟨hxn, hrow, hown⟩ := hgv
    dsimp only at hxn hrow hown
    obtain ⟨V', hV'⟩ : ∃ V', V' = V.alloc (.cells #[.slice oa xn c] 72) := ⟨_, rfl⟩
    obtain ⟨B, hB⟩ : ∃ b, b = V.heap.size := ⟨_, rfl⟩
    have hbV : Below V.heap.size V V' := by rw [hV']; exact (Below.refl _ _).alloc (Nat.le_refl _) _
    have hBx : V'.heap[B]? = some (.cells #[.slice oa xn c] 72 (0, 0)) := by rw [hV', hB]; exact alloc_cells _ _ _
    have HK := Lib.hid hK
    have HV := Lib.hid (And.intro hT (And.intro hrec (And.intro hdef (And.intro hj (And.intro hbx (And.intro hbl hT3))))))
    have HX := Lib.hid (And.intro hxn (And.intro hrow hown))
    have HVB := Lib.hid (And.intro hbV (And.intro hBx hB))
    have HLT := Lib.hid hlt
    clear hK hT hrec hdef hj hbx hbl hT3 hxn hrow hown hlt hBx hbV hst
    unfold encW
    gi_wp2_with fail
    rw [← hV', ← hB]
    clear hV' hB
    refine HK.out _ _ (KeptR.of HVB.out.1) ?_
    intro W2 ho hr2
    have hlow := HW.out.size
    have hrn : ∀ (k : Nat) (cs : Array Value) (t : TypeId) (fr : Nat × Nat), V'.heap[k]? = some (.cells cs t fr) → k ≠ W.heap.size + 1 + 1 := fun k cs t fr hk e => by
      obtain ⟨r, hr⟩ := HV.out.2.1
      have h1 := (HVB.out.1.block _ (Array.getElem?_eq_some_iff.1 hr).1).trans hr
      rw [e] at hk
      rw [hk] at h1
      cases h1
    have hsame : ∀ (k : Nat) (cs : Array Value) (t : TypeId) (fr : Nat × Nat), V'.heap[k]? = some (.cells cs t fr) → W2.heap[k]? = some (.cells cs t fr) := fun k cs t fr hk => (ho.block k (Array.getElem?_eq_some_iff.1 hk).1 (hrn k cs t fr hk)).trans hk
    have hbw2 : Below w.heap.size w W2 := (HV.out.2.2.2.2.2.1.trans (HVB.out.1.mono HV.out.2.2.2.2.2.1.size)).trans (ho.below (fun i hi h => by omega) (Nat.le_trans HV.out.2.2.2.2.2.1.size HVB.out.1.size))
    have kx : W2.cell? ⟨W.heap.size, 0, none⟩ = some (.func (.yield l) #[] #[]) := cell_of (hsame _ _ _ _ ((HVB.out.1.block _ (Array.getElem?_eq_some_iff.1 HV.out.2.2.2.2.1).1).trans HV.out.2.2.2.2.1)) rfl
    have kb : W2.cell? ⟨B, 0, none⟩ = some (.slice oa xn c) := cell_of (hsame _ _ _ _ HVB.out.2.1) rfl
    have km : W2.cell? ⟨bm, 0, none⟩ = some (.pointer (some ⟨qo, 0, none⟩)) := cell_of ((hbw2.block bm (Array.getElem?_eq_some_iff.1 HM.out.1).1).trans HM.out.1) rfl
    have HD2 := Lib.hid (HM.out.2.below hbw2)
    have hrow2 : rowAt W2 3 1 (.slice oa xn c) xn (natCells (ofT us (digT us pre.length) [])) := HX.out.2.1.kept (fun k hk => by
      have hlt := HX.out.2.1.lt k hk
      have hne : k ≠ W.heap.size + 1 + 1 := fun e => by
        rcases HX.out.2.1.2 with ⟨hv, _⟩ | ⟨g, off, cap, cur, fr, hv, hgg, _⟩
        · rw [hv] at hk
          simp [Value.ownBlock] at hk
        · rw [hv] at hk
          simp only [Value.ownBlock, Option.some.injEq] at hk
          subst hk
          exact hrn _ _ _ _ ((HVB.out.1.block _ hlt).trans hgg) e
      exact (ho.block k (Nat.lt_of_lt_of_le hlt HVB.out.1.size) hne).trans (HVB.out.1.block k hlt))
    have hps : (picksOf us pre.length).length = xn := by unfold picksOf; rw [List.length_map, HX.out.1]
    have HC : Hid (Calls Try.prog 40 #[.pointer (some ⟨qo, 0, none⟩), .agg #[.slice oa xn c]] W2 fun e w' => CrashIs W2 d (picksOf us pre.length) e w') := Lib.hid (by
      rw [picksOf_cells] at hrow2
      have h := crash_b HD2.out oa c (picksOf us pre.length) (by rw [hps]; exact hrow2.read) (by have := picksOf_len hlen pre.length; omega) (fun x hx => by have := picksOf_max hsm pre.length x hx; omega)
      rwa [hps] at h)
    have HS := Lib.hid (And.intro hbw2 (And.intro hrow2 (And.intro ho hr2)))
    have hJ2 : J (imT W.heap.size T) pre.length W2 := HJ.out _ _ _ _ (HJ.out _ _ _ _ HV.out.2.2.2.1 (Only.of_below HVB.out.1 (Nat.le_refl _) _)) (ho.mono (fun k _ hk => .inr (.inr (.inr hk))))
    have HJ2 := Lib.hid hJ2
    clear hrn hsame hbw2 hrow2 hps ho hr2 hJ2
    have hn3 : 1 ≤ n - 1 - 1 := by omega
    generalize hQ : toldPost _ _ _ _ _ = Q
    have HQ := Lib.hid hQ
    clear hQ
    gi_wp2_with fail
    refine (CallsIn.inRound _ (callsIn_wide.2 HC.out)).mono ?_
    rintro e w3 (⟨hf, -, -⟩ | ⟨-, qn, rfl, hd3, hb3⟩)
    · exact absurd (picksOf_ge us pre.length) hf
    have hsz3 := hb3.size
    have hV2 : V'.heap.size ≤ W2.heap.size := HS.out.2.2.1.size
    have hVs : V.heap.size ≤ V'.heap.size := HVB.out.1.size
    have hTO : ∀ k, imT W.heap.size T k → W.heap.size ≤ k ∧ k < V.heap.size := fun k hk => by
      have h1 : W.heap.size + 1 + 1 < V.heap.size := by
        obtain ⟨r, hr⟩ := HV.out.2.1
        exact (Array.getElem?_eq_some_iff.1 hr).1
      rcases hk with h | h | h | h
      · have := HV.out.1 _ h; omega
      · omega
      · omega
      · omega
    have hlowV : w.heap.size ≤ V.heap.size := HV.out.2.2.2.2.2.1.size
    have hWV : W.heap.size ≤ V.heap.size := by
      obtain ⟨r, hr⟩ := HV.out.2.1
      have := (Array.getElem?_eq_some_iff.1 hr).1
      omega
    have hopw : Only (imT W.heap.size T) Wp w3 := ((HWP.out.2.1.mono (fun k _ hk => show imT W.heap.size T k from .inl hk)).trans (((Only.of_below HVB.out.1 (Nat.le_refl _) _).trans (HS.out.2.2.1.mono (fun k _ hk => show imT W.heap.size T k from .inr (.inr (.inr hk)))) (fun _ _ h => h)).trans (Only.of_below hb3 (Nat.le_refl _) _) (fun _ _ h => h)) (fun _ _ h => h))
    have hszpv := HWP.out.2.1.size
    have hyy := yield_wide (l' := W.heap.size + 1 + 1) (m' := n - 1 - 1 - 1) (HY.out (imT W.heap.size T) pre.length ⟨⟨oa, xn, c⟩, qn⟩ Wp w3 (fun k hk => ⟨(hTO k hk).1, by have := (hTO k hk).2; omega⟩) HWP.out.1 hopw (by have := HWP.out.2.2; omega)
      ⟨⟨HX.out.1, HS.out.2.1.kept (fun k hk => hb3.block k (HS.out.2.1.lt k hk)), fun k hk => ⟨by have := (HX.out.2.2 k hk).1; omega, fun h => ?_⟩⟩, _, hd3, fun k hk => ⟨by have := hk.1; omega, fun h => by have := (hTO k h).2; omega⟩⟩ HLT.out)
    · obtain ⟨fn, tmps, assign, body, hy, hR⟩ := hyy
      have hy' : (Instr.yield l #[.agg #[.slice oa xn c], .pointer (some ⟨qn, 0, none⟩)]).run Try.prog w3 = .ok (.round l fn tmps assign body) w3 := hy
      have HRD := Lib.hid hR
      have HB3 := Lib.hid (And.intro hb3 (And.intro hTO (And.intro hV2 (And.intro hVs hlowV))))
      have kx3 : w3.cell? ⟨W.heap.size, 0, none⟩ = some (.func (.yield l) #[] #[]) := (hb3.cell (p := ⟨W.heap.size, 0, none⟩) (by have := HW.out.size; have := (Array.getElem?_eq_some_iff.1 HV.out.2.2.2.2.1).1; show W.heap.size < W2.heap.size; omega)).trans kx
      have kb3 : w3.cell? ⟨B, 0, none⟩ = some (.slice oa xn c) := (hb3.cell (p := ⟨B, 0, none⟩) (by have := (Array.getElem?_eq_some_iff.1 HVB.out.2.1).1; show B < W2.heap.size; omega)).trans kb
      clear hy hR hb3 hTO hd3 kx kb km hsz3 hV2 hVs hlowV
      gi_wp2_with fail
      refine HRD.out.mono ?_
      rintro e W4 (⟨rfl, hJ4, hk4⟩ | ⟨rfl, hJx4, hk4⟩)
      · have HF := Lib.hid (And.intro hJ4 hk4)
        clear hJ4 hk4 hy'
        gi_wp2_with fail
        rw [← HQ.out]
        have hB3s := HB3.out.1.size
        have hVV := HB3.out.2.2.1
        have hVV' := HB3.out.2.2.2.1
        have hTO := HB3.out.2.1
        have hkw : KeptR w.heap.size (imT W.heap.size T) W2 W4 := (KeptR.of HB3.out.1).join HF.out.2
        refine ⟨hkw.mono (fun k _ hk => ⟨hk.1, fun h => hk.2 ?_⟩), ?_, ?_, HS.out.1.trans (hkw.below (fun i hi h => by have h1 := h.1; omega) HS.out.1.size), HV.out.2.2.2.2.2.2⟩
        · rcases h with h | h | h
          · exact .inl h
          · exact .inr (.inr (.inl h))
          · exact .inr (.inr (.inr h))
        · have h5 := HF.out.1
          simpa using h5
        · have h6 : W2.heap[W.heap.size]? = some (.cells #[.func (.yield l) #[] #[]] 219 (0, 0)) := by
            have h7 := (HVB.out.1.block _ (Array.getElem?_eq_some_iff.1 HV.out.2.2.2.2.1).1).trans HV.out.2.2.2.2.1
            exact (HS.out.2.2.1.block _ (Array.getElem?_eq_some_iff.1 h7).1 (by omega)).trans h7
          exact (hkw.block _ (Array.getElem?_eq_some_iff.1 h6).1 (fun h => h.2 (.inr (.inl rfl)))).trans h6
      · have HF := Lib.hid (And.intro hJx4 hk4)
        clear hJx4 hk4 hy'
        gi_wp2_with fail
        rw [← HQ.out]
        have hkw : KeptR w.heap.size (imT W.heap.size T) W2 W4 := (KeptR.of HB3.out.1).join HF.out.2
        refine ⟨hkw.mono (fun k _ hk => ⟨hk.1, fun h => hk.2 ?_⟩), rfl, ?_, ?_⟩
        · rcases h with h | h | h
          · exact .inl h
          · exact .inr (.inr (.inl h))
          · exact .inr (.inr (.inr h))
        · have := HLT.out
          simp
          omega
        · have h5 := HF.out.1
          simpa using h5
    · have hrow := HX.out.2.1
      rcases h with h | h | h | h
      · exact (HX.out.2.2 k hk).2 h
      · subst h
        exact absurd (row_type hrow hk HV.out.2.2.2.2.1) (by decide)
      · rcases hrow.2 with ⟨hv, _⟩ | ⟨g, off, cap, cur, fr, hv, hgg, _⟩
        · rw [hv] at hk
          simp [Value.ownBlock] at hk
        · rw [hv] at hk
          simp only [Value.ownBlock, Option.some.injEq] at hk
          rw [hk, h, HV.out.2.2.1] at hgg
          cases hgg
      · obtain ⟨r, hr⟩ := HV.out.2.1
        rcases hrow.2 with ⟨hv, _⟩ | ⟨g, off, cap, cur, fr, hv, hgg, _⟩
        · rw [hv] at hk
          simp [Value.ownBlock] at hk
        · rw [hv] at hk
          simp only [Value.ownBlock, Option.some.injEq] at hk
          rw [hk, h, hr] at hgg
          cases hgg
end Go.Proofs.Ytmkjejngnahpeaa
/- Disk: what a crash leaves of each file, in plain words. -/
namespace Go.Proofs.Ytmkjejngnahpeaa
open Go Go.RowKit

/-- f is what a crash may leave of w -/
structure Left (w f : F0) : Prop where
  name : f.name = w.name
  there : f.there = true
  named : f.named = true
  lasts : f.lasts = f.bytes.length
  least : w.lasts ≤ f.bytes.length
  most : f.bytes.length ≤ w.bytes.length
  begins : f.bytes = w.bytes.take f.bytes.length
def firmF (w : F0) : Bool := w.there && w.named
/-- the files that a crash leaves, each with what it was -/
def leftPairs : List F0 → List Int → List (F0 × F0)
  | [], _ => []
  | w :: r, ps => if (keepP w ps).1 = false then leftPairs r (keepP w ps).2 else (w, cutF w (moreP w (keepP w ps).2).1) :: leftPairs r (moreP w (keepP w ps).2).2
theorem crash_pairs : ∀ (l acc : List F0) (ps : List Int), (l.foldl crashStep (acc, ps)).1 = acc ++ (leftPairs l ps).map (·.2)
  | [], acc, ps => by simp [leftPairs]
  | w :: r, acc, ps => by
    rw [List.foldl_cons]
    cases hk : (keepP w ps).1 with
    | false =>
      have e : crashStep (acc, ps) w = (acc, (keepP w ps).2) := by unfold crashStep; rw [if_pos hk]
      have e2 : leftPairs (w :: r) ps = leftPairs r (keepP w ps).2 := by rw [leftPairs, if_pos hk]
      rw [e, e2, crash_pairs r acc]
    | true =>
      have hk' : ¬ (keepP w ps).1 = false := by rw [hk]; simp
      have e : crashStep (acc, ps) w = (acc ++ [cutF w (moreP w (keepP w ps).2).1], (moreP w (keepP w ps).2).2) := by unfold crashStep; rw [if_neg hk']
      have e2 : leftPairs (w :: r) ps = (w, cutF w (moreP w (keepP w ps).2).1) :: leftPairs r (moreP w (keepP w ps).2).2 := by rw [leftPairs, if_neg hk']
      rw [e, e2, crash_pairs r]
      simp
theorem pairs_left : ∀ (l : List F0) (ps : List Int), (∀ w ∈ l, w.lasts ≤ w.bytes.length) → ∀ p ∈ leftPairs l ps, p.1 ∈ l ∧ Left p.1 p.2
  | [], ps, _, p, hp => by cases hp
  | w :: r, ps, hl, p, hp => by
    unfold leftPairs at hp
    split at hp
    · have := pairs_left r _ (fun x hx => hl x (by simp [hx])) p hp
      exact ⟨by simp [this.1], this.2⟩
    · rcases List.mem_cons.1 hp with rfl | hp
      · have hm := moreP_le w (keepP w ps).2 (hl w (by simp))
        have hlen : (w.bytes.take (w.lasts + (moreP w (keepP w ps).2).1)).length = w.lasts + (moreP w (keepP w ps).2).1 := by
          rw [List.length_take]; omega
        refine ⟨by simp, rfl, rfl, rfl, hlen.symm, ?_, ?_, ?_⟩
        · show w.lasts ≤ (w.bytes.take (w.lasts + (moreP w (keepP w ps).2).1)).length
          rw [hlen]; omega
        · show (w.bytes.take (w.lasts + (moreP w (keepP w ps).2).1)).length ≤ _
          rw [hlen]; omega
        · show w.bytes.take _ = w.bytes.take (w.bytes.take (w.lasts + (moreP w (keepP w ps).2).1)).length
          rw [hlen]
      · have := pairs_left r _ (fun x hx => hl x (by simp [hx])) p hp
        exact ⟨by simp [this.1], this.2⟩
theorem pairs_firm : ∀ (l : List F0) (ps : List Int), ((leftPairs l ps).filter fun p => firmF p.1).length = (l.filter firmF).length
  | [], ps => rfl
  | w :: r, ps => by
    unfold leftPairs
    split
    · rename_i hk
      have hw : firmF w = false := by
        unfold keepP at hk
        unfold firmF
        split at hk
        · cases hk
        · rename_i h; simpa using h
      rw [List.filter_cons_of_neg (by simp [hw]), pairs_firm r]
    · cases hw : firmF w
      · rw [List.filter_cons_of_neg (by simp [hw]), List.filter_cons_of_neg (by simp [hw]), pairs_firm r]
      · rw [List.filter_cons_of_pos (by simpa using hw), List.filter_cons_of_pos hw, List.length_cons, List.length_cons, pairs_firm r]
/-- the last file of a name -/
def lookF (l : List F0) (s : List UInt8) : Option F0 := l.find? fun w => w.name == s
theorem lookF_mem {l : List F0} (hs : (l.map (·.name)).Pairwise (· < ·)) {w : F0} (hw : w ∈ l) : lookF l w.name = some w := by
  have hnd : (l.map (·.name)).Nodup := hs.imp (fun {a b} hab he => by rw [he] at hab; exact List.lt_irrefl _ hab)
  clear hs
  unfold lookF
  induction l with
  | nil => cases hw
  | cons a r ih =>
    rw [List.map_cons, List.nodup_cons] at hnd
    rcases List.mem_cons.1 hw with rfl | h1
    · simp
    · have hne : ¬ a.name = w.name := fun e => hnd.1 (by rw [e]; exact List.mem_map_of_mem h1)
      rw [List.find?_cons_of_neg (by simpa using hne)]
      exact ih h1 hnd.2
/-- **what DiskLasts says, plainly** -/
theorem crash_left {d : Dk} (ps : List Int) (hl : ∀ w ∈ d.files, w.lasts ≤ w.bytes.length) (hs : (d.files.map (·.name)).Pairwise (· < ·)) :
    (∀ f ∈ (d.crash ps).files, ∃ w ∈ d.files, lookF d.files f.name = some w ∧ Left w f) ∧
    ((d.crash ps).files.filter fun f => (lookF d.files f.name).any firmF).length = (d.files.filter firmF).length := by
  have e : (d.crash ps).files = (leftPairs d.files ps).map (·.2) := by
    show (d.files.foldl crashStep ([], ps)).1 = _
    rw [crash_pairs]
    rfl
  have key : ∀ p ∈ leftPairs d.files ps, lookF d.files p.2.name = some p.1 ∧ p.1 ∈ d.files ∧ Left p.1 p.2 := fun p hp => by
    obtain ⟨h1, h2⟩ := pairs_left d.files ps hl p hp
    exact ⟨by rw [h2.name]; exact lookF_mem hs h1, h1, h2⟩
  refine ⟨fun f hf => ?_, ?_⟩
  · rw [e] at hf
    obtain ⟨p, hp, rfl⟩ := List.mem_map.1 hf
    obtain ⟨h1, h2, h3⟩ := key p hp
    exact ⟨p.1, h2, h1, h3⟩
  · rw [e, List.filter_map, List.length_map, ← pairs_firm d.files ps]
    congr 1
    refine List.filter_congr fun p hp => ?_
    simp only [Function.comp, (key p hp).1, Option.any_some]
end Go.Proofs.Ytmkjejngnahpeaa
/- stops: Images as a range; what any crash leaves lies between least and most, plainly. -/
namespace Go.Proofs.Ytmkjejngnahpeaa
open Go Go.Maps Go.RowKit Go.Shelf Go.Sort

theorem images_told (n : Nat) (hn : 3 ≤ n) (bs bm : Nat) (w : World) (us : List U0) (d : Dk) (him : ImagesOf w bs bm us d) (hlen : us.length ≤ 4096) (hsm : ∀ u ∈ us, u.more ≤ 16777216) :
    SeqTold Fence.wide n Try.prog 142 #[.pointer (some ⟨bs, 0, none⟩), .pointer (some ⟨bm, 0, none⟩)] encI (fun m T pre x W => ImAt us d m T pre.length x W) (fun xs => xs.length = prodW us) (fun pre => pre.length ≤ prodW us) (prodW us) w := fun l J Jx W hW hs hJ hJx hY => by
  refine (imagesIn n hn l bs bm w us d him hlen hsm (fun T j V => ∃ pre, pre.length = j ∧ J T pre V) (fun T j V => ∃ pre, pre.length = j ∧ Jx T pre V) W hW (fun T W1 h1 h2 => ⟨[], rfl, hs T W1 h1 h2⟩) ?_ ?_ ?_).mono ?_
  · rintro T j A B ⟨pre, h1, h2⟩ ho
    exact ⟨pre, h1, hJ T pre A B h2 ho⟩
  · rintro T j A B ⟨pre, h1, h2⟩ ho
    exact ⟨pre, h1, hJx T pre A B h2 ho⟩
  · rintro T j x Wp W1 hT ⟨pre, rfl, hj⟩ ho hz hpk hlt
    refine (hY T pre x Wp W1 hT hj ho hz hpk hlt).mono (fun e W' hr => ?_)
    rcases hr with ⟨h1, h2, h3⟩ | ⟨h1, h2, h3⟩
    · exact .inl ⟨h1, ⟨_, by simp, h2⟩, h3⟩
    · exact .inr ⟨h1, ⟨_, by simp, h2⟩, h3⟩
  · rintro e W' ⟨he, ⟨T, pre, h1, h2⟩ | ⟨T, j, hj, pre, rfl, h2⟩⟩
    · exact ⟨he, .inl ⟨T, pre, h1, h2⟩⟩
    · exact ⟨he, .inr ⟨T, pre, hj, h2⟩⟩
/-- each file of one disk is there in the other one, its bytes being a beginning -/
def Begins (a b : Dk) : Prop := ∀ f ∈ a.files, f.there = true → ∃ g, b.find f.name = some g ∧ ∃ k, f.bytes = g.bytes.take k
theorem pairs_cut : ∀ (l : List F0) (ps : List Int), (∀ w ∈ l, w.lasts ≤ w.bytes.length) → ∀ p ∈ leftPairs l ps, p.1 ∈ l ∧ ∃ k, k ≤ (unsF p.1).more ∧ p.2 = cutF p.1 k
  | [], ps, _, p, hp => by cases hp
  | w :: r, ps, hl, p, hp => by
    unfold leftPairs at hp
    split at hp
    · have := pairs_cut r _ (fun x hx => hl x (by simp [hx])) p hp
      exact ⟨by simp [this.1], this.2⟩
    · rcases List.mem_cons.1 hp with rfl | hp
      · refine ⟨by simp, _, ?_, rfl⟩
        unfold moreP unsF
        split
        · rename_i h
          simp only [Bool.and_eq_true, decide_eq_true_eq] at h
          have := nextP_lt (w.bytes.length - w.lasts + 1) (keepP w ps).2 (by omega)
          simp only [h.1, if_true]
          omega
        · exact Nat.zero_le _
      · have := pairs_cut r _ (fun x hx => hl x (by simp [hx])) p hp
        exact ⟨by simp [this.1], this.2⟩
/-- a firm file is left by every crash -/
theorem firm_in : ∀ (l : List F0) (ps : List Int) (w : F0), w ∈ l → firmF w = true → ∃ k, (w, cutF w k) ∈ leftPairs l ps
  | v :: r, ps, w, hw, hf => by
    unfold leftPairs
    split
    · rename_i hk
      rcases List.mem_cons.1 hw with rfl | hw
      · unfold keepP at hk
        unfold firmF at hf
        rw [if_pos hf] at hk
        cases hk
      · exact firm_in r _ w hw hf
    · rcases List.mem_cons.1 hw with rfl | hw
      · exact ⟨_, List.mem_cons_self ..⟩
      · obtain ⟨k, hk⟩ := firm_in r (moreP v (keepP v ps).2).2 w hw hf
        exact ⟨k, List.mem_cons_of_mem _ hk⟩
theorem nextP_nil (of : Nat) : nextP of [] = (0, []) := rfl
theorem keepP_nil (w : F0) : keepP w [] = (firmF w, []) := by
  unfold keepP firmF
  split
  · rename_i h
    rw [h]
  · rename_i h
    rw [nextP_nil, Bool.not_eq_true] at *
    rw [h]
    rfl
theorem moreP_nil (w : F0) : moreP w [] = (0, []) := by
  unfold moreP
  split <;> rfl
theorem least_pairs : ∀ (l : List F0), leftPairs l [] = (l.filter firmF).map fun w => (w, cutF w 0)
  | [] => rfl
  | w :: r => by
    unfold leftPairs
    rw [keepP_nil, moreP_nil, least_pairs r]
    cases h : firmF w
    · rw [if_pos rfl, List.filter_cons_of_neg (by rw [h]; simp)]
    · rw [if_neg (by simp), List.filter_cons_of_pos h]
      rfl
/-- the picks with which all stays -/
def mostOf (u : U0) : List Nat := (if u.name = true then [1] else []) ++ (if 0 < u.more then [u.more] else [])
def mostN (us : List U0) : List Nat := us.flatMap mostOf
def mostP (us : List U0) : List Int := (mostN us).map fun (x : Nat) => (x : Int)
theorem mostP_app (a b : List U0) : mostP (a ++ b) = mostP a ++ mostP b := by simp [mostP, mostN]
theorem of_most : ∀ (l : List U0) (out : List Nat), ofT l (l.map fun u => u.ways - 1) out = out ++ mostN l
  | [], out => by simp [ofT, mostN]
  | u :: l, out => by
    have e : ofStep out u (u.ways - 1) = out ++ mostOf u := by
      obtain ⟨b, m⟩ := u
      cases b
      · by_cases hm : 0 < m <;> simp [ofStep, U0.ways, mostOf, hm]
      · by_cases hm : 0 < m
        · simp [ofStep, U0.ways, mostOf, hm]
        · have : m = 0 := by omega
          subst this
          simp [ofStep, U0.ways, mostOf]
    show ofT l (l.map fun u => u.ways - 1) (ofStep out u (u.ways - 1)) = _
    rw [e, of_most l]
    simp [mostN]
/-- the plain picks of one file's way -/
def ofOne (u : U0) (x : Nat) : List Nat := if u.name = true then (if x = 0 then [0] else if 0 < u.more then [1, x - 1] else [1]) else if 0 < u.more then [x] else []
def ints (l : List Nat) : List Int := l.map fun (x : Nat) => (x : Int)
theorem ints_append (a b : List Nat) : ints (a ++ b) = ints a ++ ints b := by simp [ints]
theorem nextP_ints (m x : Nat) (r : List Int) (h : x < m) : nextP m (ints [x] ++ r) = (x, r) := by
  show (((x : Int)).toNat % m, r) = _
  rw [Int.toNat_natCast, Nat.mod_eq_of_lt h]
theorem keep_uns (w : F0) (ps : List Int) : keepP w ps = if (unsF w).name = true then (decide ((nextP 2 ps).1 ≠ 0), (nextP 2 ps).2) else (true, ps) := by
  obtain ⟨nm, bs, la, t, n⟩ := w
  cases t <;> cases n <;> rfl
theorem more_uns (w : F0) (ps : List Int) : moreP w ps = if 0 < (unsF w).more then nextP ((unsF w).more + 1) ps else (0, ps) := by
  obtain ⟨nm, bs, la, t, n⟩ := w
  cases t
  · rfl
  · by_cases h : la < bs.length
    · have h2 : 0 < bs.length - la := by omega
      simp [moreP, unsF, h, h2]
    · have h2 : bs.length - la = 0 := by omega
      simp [moreP, unsF, h, h2]
theorem keep_ints (w : F0) (x : Nat) (R : List Int) (hx : x < (unsF w).ways) : ((unsF w).name = true ∧ x = 0 → keepP w (ints (ofOne (unsF w) x) ++ R) = (false, R)) ∧
    (¬ ((unsF w).name = true ∧ x = 0) → (keepP w (ints (ofOne (unsF w) x) ++ R)).1 = true ∧ moreP w (keepP w (ints (ofOne (unsF w) x) ++ R)).2 = ((if (unsF w).name = true then x - 1 else x), R)) := by
  simp only [keep_uns, more_uns]
  generalize unsF w = u at hx ⊢
  obtain ⟨b, m⟩ := u
  cases b
  · refine ⟨fun h => absurd h.1 (by simp), fun _ => ?_⟩
    by_cases hm : 0 < m
    · have hlt : x < m + 1 := by simpa [U0.ways] using hx
      simp only [ofOne, hm, if_true]
      simp
      exact nextP_ints _ _ R hlt
    · have h0 : x = 0 := by simp [U0.ways] at hx; omega
      subst h0
      simp [ofOne, hm, ints]
  · by_cases h0 : x = 0
    · subst h0
      refine ⟨fun _ => ?_, fun h => (h ⟨rfl, rfl⟩).elim⟩
      simp only [ofOne, if_true, nextP_ints 2 0 R (by omega)]
      simp
    · refine ⟨fun h => absurd h.2 h0, fun _ => ?_⟩
      by_cases hm : 0 < m
      · have hlt : x - 1 < m + 1 := by simp [U0.ways] at hx; omega
        have e1 : ints [1, x - 1] ++ R = ints [1] ++ (ints [x - 1] ++ R) := rfl
        simp only [ofOne, h0, hm, if_true, if_false, e1, nextP_ints 2 1 _ (by omega), nextP_ints _ _ R hlt]
        simp
      · have h1 : x = 1 := by simp [U0.ways] at hx; omega
        subst h1
        simp only [ofOne, hm, if_true, if_false, nextP_ints 2 1 _ (by omega), Nat.one_ne_zero]
        simp
theorem most_one (u : U0) : mostOf u = ofOne u (u.ways - 1) := by
  obtain ⟨b, m⟩ := u
  cases b
  · simp [mostOf, ofOne, U0.ways]
  · by_cases hm : 0 < m
    · simp [mostOf, ofOne, U0.ways, hm]
    · have : m = 0 := by omega
      subst this
      simp [mostOf, ofOne, U0.ways]
theorem keep_most (w : F0) (r : List Int) : (keepP w (mostP [unsF w] ++ r)).1 = true ∧ moreP w (keepP w (mostP [unsF w] ++ r)).2 = ((unsF w).more, r) := by
  have e : mostP [unsF w] = ints (ofOne (unsF w) ((unsF w).ways - 1)) := by
    show ints (mostN [unsF w]) = _
    have : mostN [unsF w] = mostOf (unsF w) := by simp [mostN]
    rw [this, most_one]
  have hp := (unsF w).ways_pos
  have h0 : ¬ ((unsF w).name = true ∧ (unsF w).ways - 1 = 0) := fun h => by
    have h2 := h.2
    unfold U0.ways at h2
    rw [if_pos h.1] at h2
    omega
  obtain ⟨h1, h2⟩ := (keep_ints w ((unsF w).ways - 1) r (by omega)).2 h0
  rw [e]
  refine ⟨h1, h2.trans ?_⟩
  congr 1
  unfold U0.ways
  split <;> omega
theorem most_step (w : F0) (l : List F0) (r : List Int) : mostP (unsT (w :: l)) ++ r = mostP [unsF w] ++ (mostP (unsT l) ++ r) := by
  have e : unsT (w :: l) = unsOf w ++ unsT l := rfl
  have e2 : mostP (unsOf w) = mostP [unsF w] := by
    unfold unsOf
    split
    · rfl
    · rename_i h
      simp only [Bool.or_eq_true, decide_eq_true_eq, not_or, Bool.not_eq_true] at h
      simp [mostP, mostN, mostOf, h.1, h.2]
  rw [e, mostP_app, e2, List.append_assoc]
theorem most_pairs : ∀ (l : List F0) (r : List Int), leftPairs l (mostP (unsT l) ++ r) = l.map fun w => (w, cutF w (unsF w).more)
  | [], r => rfl
  | w :: l, r => by
    rw [most_step]
    obtain ⟨h1, h2⟩ := keep_most w (mostP (unsT l) ++ r)
    rw [leftPairs, if_neg (by rw [h1]; simp), h2, most_pairs l r]
    rfl
theorem crash_files (d : Dk) (ps : List Int) : (d.crash ps).files = (leftPairs d.files ps).map (·.2) := by
  show (d.files.foldl crashStep ([], ps)).1 = _
  rw [crash_pairs]
  rfl
theorem pairs_sub : ∀ (l : List F0) (ps : List Int), ((leftPairs l ps).map (·.1)).Sublist l
  | [], ps => by simp [leftPairs]
  | w :: r, ps => by
    unfold leftPairs
    split
    · exact (pairs_sub r _).cons _
    · exact (pairs_sub r _).cons_cons _
theorem pairs_names (l : List F0) (ps : List Int) (hl : ∀ w ∈ l, w.lasts ≤ w.bytes.length) : ((leftPairs l ps).map (·.2)).map (·.name) = ((leftPairs l ps).map (·.1)).map (·.name) := by
  rw [List.map_map, List.map_map]
  refine List.map_congr_left fun p hp => ?_
  obtain ⟨_, k, _, e⟩ := pairs_cut l ps hl p hp
  show p.2.name = p.1.name
  rw [e]
  rfl
theorem crash_sorted {d : Dk} (ps : List Int) (hl : ∀ w ∈ d.files, w.lasts ≤ w.bytes.length) (hs : (d.files.map (·.name)).Pairwise (· < ·)) : ((d.crash ps).files.map (·.name)).Pairwise (· < ·) := by
  rw [crash_files, pairs_names _ _ hl]
  exact hs.sublist ((pairs_sub _ _).map _)
theorem crash_find {d : Dk} {ps : List Int} (hl : ∀ w ∈ d.files, w.lasts ≤ w.bytes.length) (hs : (d.files.map (·.name)).Pairwise (· < ·)) {w : F0} {k : Nat} (h : (w, cutF w k) ∈ leftPairs d.files ps) : (d.crash ps).find w.name = some (cutF w k) := by
  have hm : cutF w k ∈ (d.crash ps).files := by
    rw [crash_files]
    exact List.mem_map.2 ⟨_, h, rfl⟩
  have hf := lookF_mem (crash_sorted ps hl hs) hm
  have e : (d.crash ps).at w.name = some (cutF w k) := hf
  unfold Dk.find
  rw [e]
  rfl
/-- **what Least leaves is a beginning of what any crash leaves** -/
theorem least_begins {d : Dk} (ps : List Int) (hl : ∀ w ∈ d.files, w.lasts ≤ w.bytes.length) (hs : (d.files.map (·.name)).Pairwise (· < ·)) : Begins (d.crash []) (d.crash ps) := fun f hf _ => by
  rw [crash_files, least_pairs, List.map_map] at hf
  obtain ⟨w, hw, e⟩ := List.mem_map.1 hf
  have e' : f = cutF w 0 := e.symm
  subst e'
  obtain ⟨hw1, hw2⟩ := List.mem_filter.1 hw
  obtain ⟨k, hk⟩ := firm_in d.files ps w hw1 hw2
  show ∃ g, (d.crash ps).find w.name = some g ∧ ∃ k, (cutF w 0).bytes = g.bytes.take k
  refine ⟨_, crash_find hl hs hk, w.lasts, ?_⟩
  show w.bytes.take (w.lasts + 0) = (w.bytes.take (w.lasts + k)).take w.lasts
  rw [List.take_take]
  congr 1
  omega
/-- **.. and that is a beginning of what Most leaves** -/
theorem begins_most {d : Dk} (ps : List Int) (hl : ∀ w ∈ d.files, w.lasts ≤ w.bytes.length) (hs : (d.files.map (·.name)).Pairwise (· < ·)) : Begins (d.crash ps) (d.crash (mostP (unsT d.files))) := fun f hf _ => by
  rw [crash_files] at hf
  obtain ⟨p, hp, rfl⟩ := List.mem_map.1 hf
  obtain ⟨hw, k, hk, e⟩ := pairs_cut d.files ps hl p hp
  have hm : (p.1, cutF p.1 (unsF p.1).more) ∈ leftPairs d.files (mostP (unsT d.files)) := by
    have := most_pairs d.files []
    rw [List.append_nil] at this
    rw [this]
    exact List.mem_map.2 ⟨_, hw, rfl⟩
  have hn : p.2.name = p.1.name := by rw [e]; rfl
  rw [hn]
  refine ⟨_, crash_find hl hs hm, p.1.lasts + k, ?_⟩
  rw [e]
  show p.1.bytes.take (p.1.lasts + k) = (p.1.bytes.take (p.1.lasts + (unsF p.1).more)).take (p.1.lasts + k)
  rw [List.take_take]
  congr 1
  omega
end Go.Proofs.Ytmkjejngnahpeaa
/- The document's disk: what Crash makes, plainly; how it lies while it is made. -/
namespace Go.Proofs.Ytmkjejngnahpeaa
open Go Go.Maps Go.RowKit

/-- what the document's crash has made so far: files, plain picks, the numbers that they are taken modulo -/
structure RcS where
  fl : List F0
  out : List Nat
  of : List Nat
def pickAt (ps : List Int) (k m : Nat) : Nat := (nextP m (ps.drop k)).1
theorem nextP_drop (ps : List Int) (k m : Nat) : nextP m (ps.drop k) = (pickAt ps k m, ps.drop (k + 1)) := by
  unfold pickAt
  cases h : ps.drop k with
  | nil =>
    have : ps.drop (k + 1) = [] := by
      rw [List.drop_eq_nil_iff] at h ⊢
      omega
    rw [this]
    rfl
  | cons x r =>
    have : ps.drop (k + 1) = r := by
      rw [← List.drop_drop, h]
      rfl
    rw [this]
    rfl
/-- the name's pick -/
def rcName (ps : List Int) (s : RcS) (f : F0) : Bool × RcS :=
  if (unsF f).name = true then (decide (pickAt ps s.out.length 2 ≠ 0), ⟨s.fl, s.out ++ [pickAt ps s.out.length 2], s.of ++ [2]⟩) else (true, s)
/-- the pick of how many bytes stay -/
def rcMore (ps : List Int) (s : RcS) (f : F0) : Nat × RcS :=
  if 0 < (unsF f).more then (pickAt ps s.out.length ((unsF f).more + 1), ⟨s.fl, s.out ++ [pickAt ps s.out.length ((unsF f).more + 1)], s.of ++ [(unsF f).more + 1]⟩) else (0, s)
def rcFile (s : RcS) (f : F0) (m : Nat) : RcS := ⟨s.fl ++ [cutF f m], s.out, s.of⟩
def rcStep (ps : List Int) (s : RcS) (f : F0) : RcS :=
  if (rcName ps s f).1 = false then (rcName ps s f).2 else rcFile (rcMore ps (rcName ps s f).2 f).2 f (rcMore ps (rcName ps s f).2 f).1
def rcT (l : List F0) (ps : List Int) : RcS := l.foldl (rcStep ps) ⟨[], [], []⟩
theorem rcT_succ {l : List F0} {ps : List Int} {j : Nat} (hj : j < l.length) : rcT (l.take (j + 1)) ps = rcStep ps (rcT (l.take j) ps) l[j] := by
  unfold rcT
  rw [List.take_succ_eq_append_getElem hj, List.foldl_append]
  rfl
theorem rcName_keep (ps : List Int) (s : RcS) (f : F0) : keepP f (ps.drop s.out.length) = ((rcName ps s f).1, ps.drop (rcName ps s f).2.out.length) := by
  rw [keep_uns]
  unfold rcName
  split
  · rw [nextP_drop]
    simp
  · rfl
theorem rcMore_more (ps : List Int) (s : RcS) (f : F0) : moreP f (ps.drop s.out.length) = ((rcMore ps s f).1, ps.drop (rcMore ps s f).2.out.length) := by
  rw [more_uns]
  unfold rcMore
  split
  · rw [nextP_drop]
    simp
  · rfl
theorem rcName_fl (ps : List Int) (s : RcS) (f : F0) : (rcName ps s f).2.fl = s.fl := by
  unfold rcName
  split <;> rfl
theorem rcMore_fl (ps : List Int) (s : RcS) (f : F0) : (rcMore ps s f).2.fl = s.fl := by
  unfold rcMore
  split <;> rfl
/-- the files are those that the program's crash leaves -/
theorem rc_crash (ps : List Int) (s : RcS) (f : F0) : crashStep (s.fl, ps.drop s.out.length) f = ((rcStep ps s f).fl, ps.drop (rcStep ps s f).out.length) := by
  unfold crashStep rcStep
  rw [rcName_keep]
  dsimp only
  by_cases h : (rcName ps s f).1 = false
  · rw [if_pos h, if_pos h, rcName_fl]
  · rw [if_neg h, if_neg h, rcMore_more]
    show (s.fl ++ [cutF f _], _) = ((rcMore ps (rcName ps s f).2 f).2.fl ++ [cutF f _], _)
    rw [rcMore_fl, rcName_fl]
    rfl
theorem rcT_crash : ∀ (l : List F0) (ps : List Int) (s : RcS), l.foldl crashStep (s.fl, ps.drop s.out.length) = ((l.foldl (rcStep ps) s).fl, ps.drop (l.foldl (rcStep ps) s).out.length)
  | [], _, _ => rfl
  | f :: l, ps, s => by
    rw [List.foldl_cons, List.foldl_cons, rc_crash]
    exact rcT_crash l ps (rcStep ps s f)
theorem rcT_files (d : Dk) (ps : List Int) : (rcT d.files ps).fl = (d.crash ps).files := by
  have := rcT_crash d.files ps ⟨[], [], []⟩
  show _ = (d.files.foldl crashStep ([], ps)).1
  have e : ps.drop (⟨[], [], []⟩ : RcS).out.length = ps := rfl
  rw [e] at this
  rw [this]
  rfl
/-- the picks are those of the plain stop -/
theorem rc_plain (ps : List Int) (s : RcS) (f : F0) (w : List Nat) : ∃ w', (unsOf f).foldl plainStep ⟨s.out, w, ps.drop s.out.length⟩ = ⟨(rcStep ps s f).out, w', ps.drop (rcStep ps s f).out.length⟩ := by
  have key : plainStep ⟨s.out, w, ps.drop s.out.length⟩ (unsF f) = ⟨(rcStep ps s f).out, (plainStep ⟨s.out, w, ps.drop s.out.length⟩ (unsF f)).ways, ps.drop (rcStep ps s f).out.length⟩ := by
    unfold plainStep rcStep rcName rcMore rcFile
    by_cases hn : (unsF f).name = true
    · simp only [hn, if_true, nextP_drop]
      by_cases h0 : pickAt ps s.out.length 2 = 0
      · simp [h0]
      · by_cases hm : 0 < (unsF f).more
        · simp [h0, hm]
        · simp [h0, hm]
    · by_cases hm : 0 < (unsF f).more
      · simp [hn, hm, nextP_drop]
      · simp [hn, hm]
  by_cases hs : unsOf f = []
  · rw [hs]
    have h2 : (unsF f).name = false ∧ ¬ 0 < (unsF f).more := by
      unfold unsOf at hs
      split at hs
      · cases hs
      · rename_i h
        simp only [Bool.or_eq_true, decide_eq_true_eq, not_or, Bool.not_eq_true] at h
        exact h
    have e : (rcStep ps s f).out = s.out := by
      unfold rcStep rcName rcMore rcFile
      simp [h2.1, h2.2]
    rw [e]
    exact ⟨w, rfl⟩
  · have h1 : unsOf f = [unsF f] := by
      unfold unsOf at hs ⊢
      split
      · rfl
      · rename_i h2
        rw [if_neg h2] at hs
        exact absurd rfl hs
    rw [h1]
    exact ⟨_, key⟩
theorem rcT_plain : ∀ (l : List F0) (ps : List Int) (s : RcS) (w : List Nat), ∃ w', (unsT l).foldl plainStep ⟨s.out, w, ps.drop s.out.length⟩ = ⟨(l.foldl (rcStep ps) s).out, w', ps.drop (l.foldl (rcStep ps) s).out.length⟩
  | [], _, _, w => ⟨w, rfl⟩
  | f :: l, ps, s, w => by
    have e : unsT (f :: l) = unsOf f ++ unsT l := rfl
    obtain ⟨w', h⟩ := rc_plain ps s f w
    rw [e, List.foldl_append, h, List.foldl_cons]
    exact rcT_plain l ps (rcStep ps s f) w'
theorem rcT_out (d : Dk) (ps : List Int) : (rcT d.files ps).out = (plainT (unsT d.files) ps).out := by
  obtain ⟨w', h⟩ := rcT_plain d.files ps ⟨[], [], []⟩ []
  have e : ps.drop (⟨[], [], []⟩ : RcS).out.length = ps := rfl
  rw [e] at h
  show _ = ((unsT d.files).foldl plainStep ⟨[], [], ps⟩).out
  rw [h]
  rfl
theorem rcStep_len (ps : List Int) (s : RcS) (f : F0) : (rcStep ps s f).out.length ≤ s.out.length + 2 ∧ (rcStep ps s f).of.length ≤ s.of.length + 2 ∧ (rcStep ps s f).fl.length ≤ s.fl.length + 1 := by
  have h1 : (rcName ps s f).2.out.length ≤ s.out.length + 1 ∧ (rcName ps s f).2.of.length ≤ s.of.length + 1 ∧ (rcName ps s f).2.fl.length = s.fl.length := by
    unfold rcName
    split <;> simp
  have h2 : ∀ s : RcS, (rcMore ps s f).2.out.length ≤ s.out.length + 1 ∧ (rcMore ps s f).2.of.length ≤ s.of.length + 1 ∧ (rcMore ps s f).2.fl.length = s.fl.length := fun s => by
    unfold rcMore
    split <;> simp
  have h3 := h2 (rcName ps s f).2
  unfold rcStep
  split
  · omega
  · show (rcMore ps (rcName ps s f).2 f).2.out.length ≤ _ ∧ (rcMore ps (rcName ps s f).2 f).2.of.length ≤ _ ∧ ((rcMore ps (rcName ps s f).2 f).2.fl ++ [_]).length ≤ _
    rw [List.length_append]
    simp only [List.length_cons, List.length_nil]
    omega
theorem rcT_len : ∀ (l : List F0) (ps : List Int) (s : RcS), (l.foldl (rcStep ps) s).out.length ≤ s.out.length + 2 * l.length ∧ (l.foldl (rcStep ps) s).of.length ≤ s.of.length + 2 * l.length ∧ (l.foldl (rcStep ps) s).fl.length ≤ s.fl.length + l.length
  | [], _, _ => ⟨Nat.le_refl _, Nat.le_refl _, Nat.le_refl _⟩
  | f :: l, ps, s => by
    have h1 := rcT_len l ps (rcStep ps s f)
    have h2 := rcStep_len ps s f
    rw [List.foldl_cons, List.length_cons]
    omega
/-- how it lies -/
structure RcI (w W : World) (b9 : Nat) (pv ov fv : Value) (s : RcS) : Prop where
  prow : rowAt W 3 1 pv s.out.length (natCells s.out)
  orow : rowAt W 3 1 ov s.of.length (natCells s.of)
  apart : ∀ k, pv.ownBlock = some k → ov.ownBlock ≠ some k
  plow : ∀ k, pv.ownBlock = some k → w.heap.size ≤ k
  olow : ∀ k, ov.ownBlock = some k → w.heap.size ≤ k
  box : W.heap[b9]? = some (.cells #[fv, .slice none 0 0, .int .i64 0] 198 (0, 0))
  files : NewRow w W fv s.fl
  low : w.heap.size ≤ b9
section
variable {w W W' w3 : World} {b9 m : Nat} {pv ov fv : Value} {s : RcS}
theorem RcI.kept (h : RcI w W b9 pv ov fv s) (hb : Below W.heap.size W W') : RcI w W' b9 pv ov fv s :=
  ⟨h.prow.kept (fun k hk => hb.block k (h.prow.lt k hk)), h.orow.kept (fun k hk => hb.block k (h.orow.lt k hk)), h.apart, h.plow, h.olow, (hb.block b9 (Array.getElem?_eq_some_iff.1 h.box).1).trans h.box, h.files.kept hb, h.low⟩
theorem RcI.boxlt (h : RcI w W b9 pv ov fv s) : b9 < W.heap.size := (Array.getElem?_eq_some_iff.1 h.box).1
/-- what an append to a row of numbers leaves -/
theorem grown_other {v : Value} {o : Obj} (hg : (W.alloc o).grownBy w3 v.ownBlock) : ∀ k, k < W.heap.size → v.ownBlock ≠ some k → w3.heap[k]? = W.heap[k]? := fun k hk hne =>
  (hg.block k (by simp; omega) (fun e => hne e.symm)).trans (Below.heap_alloc _ _ k hk)
theorem RcI.others {v : Value} {n : Nat} {xs : List Value} {o : Obj} (h : RcI w W b9 pv ov fv s) (hr : rowAt W 3 1 v n xs) (hlow : ∀ k, v.ownBlock = some k → w.heap.size ≤ k) (hg : (W.alloc o).grownBy w3 v.ownBlock) :
    w3.heap[b9]? = some (.cells #[fv, .slice none 0 0, .int .i64 0] 198 (0, 0)) ∧ NewRow w w3 fv s.fl := by
  have hk := grown_other hg
  refine ⟨(hk b9 h.boxlt (fun e => absurd (row_type hr e h.box) (by decide))).trans h.box, h.files.row.kept (fun k hk1 => hk k (h.files.row.lt k hk1) (fun e => ?_)), h.files.own, ?_⟩
  · rcases h.files.row.2 with ⟨hv, _⟩ | ⟨g, off, cap, cur, fr, hv, hgg, _⟩
    · rw [hv] at hk1
      simp [Value.ownBlock] at hk1
    · rw [hv] at hk1
      simp only [Value.ownBlock, Option.some.injEq] at hk1
      subst hk1
      exact absurd (row_type hr e hgg) (by decide)
  · have hal := h.files.below.alloc h.files.below.size o
    exact hal.grown hg hal.size (fun k hk => hlow k hk)
theorem RcI.plain {oa oa3 : Option Addr} {c c3 x : Nat} {o : Obj} (h : RcI w W b9 (.slice oa m c) ov fv s) (hm : s.out.length = m) (hr : rowAt w3 3 1 (.slice oa3 (m + 1) c3) (m + 1) (natCells s.out ++ [.int .i64 (x : Int)])) (hg : (W.alloc o).grownBy w3 (Value.slice oa m c).ownBlock)
    (hw : (Value.slice oa3 (m + 1) c3).ownBlock = (Value.slice oa m c).ownBlock ∨ (Value.slice oa3 (m + 1) c3).ownBlock = some (W.heap.size + 1)) : RcI w w3 b9 (.slice oa3 (m + 1) c3) ov fv ⟨s.fl, s.out ++ [x], s.of⟩ := by
  obtain ⟨h1, h2⟩ := h.others h.prow h.plow hg
  have hk := grown_other hg
  have hsz := h.files.below.size
  refine ⟨?_, h.orow.kept (fun k hk1 => hk k (h.orow.lt k hk1) (fun e => h.apart k e hk1)), fun k hk1 hk2 => ?_, fun k hk1 => ?_, h.olow, h1, h2, h.low⟩
  · rw [natCells_append, List.length_append, hm]
    exact hr
  · rcases hw with e | e
    · exact h.apart k (by rw [← e]; exact hk1) hk2
    · rw [hk1] at e
      simp only [Option.some.injEq] at e
      have := h.orow.lt k hk2
      omega
  · rcases hw with e | e
    · exact h.plow k (by rw [← e]; exact hk1)
    · rw [hk1] at e
      simp only [Option.some.injEq] at e
      omega
theorem RcI.ofs {oa oa3 : Option Addr} {c c3 x : Nat} {o : Obj} (h : RcI w W b9 pv (.slice oa m c) fv s) (hm : s.of.length = m) (hr : rowAt w3 3 1 (.slice oa3 (m + 1) c3) (m + 1) (natCells s.of ++ [.int .i64 (x : Int)])) (hg : (W.alloc o).grownBy w3 (Value.slice oa m c).ownBlock)
    (hw : (Value.slice oa3 (m + 1) c3).ownBlock = (Value.slice oa m c).ownBlock ∨ (Value.slice oa3 (m + 1) c3).ownBlock = some (W.heap.size + 1)) : RcI w w3 b9 pv (.slice oa3 (m + 1) c3) fv ⟨s.fl, s.out, s.of ++ [x]⟩ := by
  obtain ⟨h1, h2⟩ := h.others h.orow h.olow hg
  have hk := grown_other hg
  have hsz := h.files.below.size
  refine ⟨h.prow.kept (fun k hk1 => hk k (h.prow.lt k hk1) (fun e => h.apart k hk1 e)), ?_, fun k hk1 hk2 => ?_, h.plow, fun k hk1 => ?_, h1, h2, h.low⟩
  · rw [natCells_append, List.length_append, hm]
    exact hr
  · rcases hw with e | e
    · exact h.apart k hk1 (by rw [← e]; exact hk2)
    · rw [hk2] at e
      simp only [Option.some.injEq] at e
      have := h.prow.lt k hk1
      omega
  · rcases hw with e | e
    · exact h.olow k (by rw [← e]; exact hk1)
    · rw [hk1] at e
      simp only [Option.some.injEq] at e
      omega
end
end Go.Proofs.Ytmkjejngnahpeaa
