/- The texts Kd, Ke in one. -/
import Derived.Test.YtmkjejngnahpeaaC3
import Derived.Sort.LoopGhostIn
import Derived.Lib.QuietBelowIn
/- stops: going over all ways. -/
namespace Go.Proofs.Ytmkjejngnahpeaa
open Go Go.Maps Go.RowKit Go.Shelf Go.Sort
attribute [local go_sem] Oper.semAt_some

/-- a slice -/
structure SlV where
  oa : Option Addr
  n : Nat
  c : Nat
def encW (x : SlV) : Array Value := #[.agg #[.slice x.oa x.n x.c]]
/-- the picks of the j-th way lie there, apart from T -/
def PkAt (us : List U0) (n₀ : Nat) (T : Nat → Prop) (j : Nat) (x : SlV) (W : World) : Prop :=
  (ofT us (digT us j) []).length = x.n ∧ rowAt W 3 1 (.slice x.oa x.n x.c) x.n (natCells (ofT us (digT us j) [])) ∧ ∀ k, (Value.slice x.oa x.n x.c).ownBlock = some k → n₀ ≤ k ∧ ¬ T k
/-- what stands while the ways are gone over -/
structure WaysI (J : (Nat → Prop) → Nat → World → Prop) (w V : World) (wb N k : Nat) (row : List Nat) : Prop where
  j : J (fun i => i = wb) k V
  row : rowAt V 2 1 (.slice (some ⟨wb, 0, none⟩) N N) N (natCells row)
  below : Below w.heap.size w V
  size : wb < V.heap.size
  low : w.heap.size ≤ wb
section
variable {J : (Nat → Prop) → Nat → World → Prop} {w V V' : World} {wb N k : Nat} {row : List Nat}
theorem WaysI.grown (h : WaysI J w V wb N k row) (hJ : ∀ T j A B, J T j A → Only T A B → J T j B) (hb : Below V.heap.size V V') : WaysI J w V' wb N k row :=
  ⟨hJ _ _ _ _ h.j (Only.of_below hb (Nat.le_refl _) _), h.row.kept (fun k hk => hb.block k (h.row.lt k hk)), h.below.trans (hb.mono h.below.size), Nat.lt_of_lt_of_le h.size hb.size, h.low⟩
theorem WaysI.digit (h : WaysI J w V wb N k row) (hJ : ∀ T j A B, J T j A → Only T A B → J T j B) {i : Nat} (hi : i < N) (r : Nat) : WaysI J w (V.setCell ⟨wb, i, none⟩ (.int .i64 r)) wb N k (row.set i r) := by
  have ho : Only (fun j => j = wb) V (V.setCell ⟨wb, i, none⟩ (.int .i64 r)) := only_setCell _ _ _ _ _ rfl
  refine ⟨hJ _ _ _ _ h.j ho, ?_, h.below.setCell (p := ⟨wb, i, none⟩) h.low _, Nat.lt_of_lt_of_le h.size ho.size, h.low⟩
  have h1 := h.row.setAt (j := i) (by omega) (.int .i64 r)
  rw [Nat.zero_add] at h1
  have e : natCells (row.set i r) = (natCells row).set i (.int .i64 r) := by unfold natCells; rw [List.map_set]
  rw [e]
  exact h1
end
set_option maxRecDepth 100000 in
set_option maxHeartbeats 4000000 in
theorem waysIn (n : Nat) (hn : 1 ≤ n) (l b3 b4 : Nat) (w : World) (us : List U0) (hwo : WaysOf w b3 b4 us) (hlen : us.length ≤ 4096) (hsm : ∀ u ∈ us, u.more ≤ 16777216) (J Jx : (Nat → Prop) → Nat → World → Prop) (W : World) (hW : Below w.heap.size w W)
    (hs : ∀ T W1, Below W.heap.size W W1 → (∀ k, T k → W.heap.size ≤ k ∧ k < W1.heap.size) → J T 0 W1)
    (hJ : ∀ T j A B, J T j A → Only T A B → J T j B)
    (hY : ∀ T j x Wp W1, (∀ k, T k → W.heap.size ≤ k ∧ k < W1.heap.size) → J T j Wp → Only T Wp W1 → W.heap.size ≤ Wp.heap.size → PkAt us Wp.heap.size T j x W1 → j < prodW us → YieldAt Fence.wide (n - 1) Try.prog l (encW x) W1 fun e W' =>
      (e = .returned (.bool true) ∧ J T (j + 1) W' ∧ KeptR w.heap.size T W1 W') ∨ (e = .returned (.bool false) ∧ Jx T (j + 1) W' ∧ KeptR w.heap.size T W1 W')) :
    CallsIn Fence.wide n Try.prog 141 #[.func (.yield l) #[] #[], .pointer (some ⟨b3, 0, none⟩), .pointer (some ⟨b4, 0, none⟩)] W fun e W' => (∃ v, e = .returned v) ∧ ((∃ T, J T (prodW us) W') ∨ ∃ T j, j ≤ prodW us ∧ Jx T j W') := by
  obtain ⟨h3, v, hv, hrow⟩ := hwo
  obtain ⟨oa, c, rfl, hnc⟩ := hrow.shape
  obtain ⟨N, hN⟩ : ∃ N, us.length = N := ⟨_, rfl⟩
  rw [hN] at hv hrow hnc hlen
  have hwt : ∀ V, Below w.heap.size w V → V.cell? ⟨b3, 0, none⟩ = some (.bool true) ∧ V.cell? ⟨b4, 0, none⟩ = some (.slice oa N c) ∧ rowAt V 213 2 (.slice oa N c) N (uCells us) := fun V hV =>
    ⟨cell_of ((hV.block b3 (Array.getElem?_eq_some_iff.1 h3).1).trans h3) rfl, cell_of ((hV.block b4 (Array.getElem?_eq_some_iff.1 hv).1).trans hv) rfl, hrow.kept (fun k hk => hV.block k (hrow.lt k hk))⟩
  obtain ⟨c3, c4, -⟩ := hwt W hW
  have HT := Lib.hid hwt
  have HN := Lib.hid (And.intro hN hsm)
  have HW := Lib.hid hW
  have HST := Lib.hid hs
  have HJ := Lib.hid hJ
  have HY := Lib.hid hY
  clear hwt h3 hv hrow hN hsm hW hs hJ hY
  have f1 : Fence.wide.fn 140 := trivial
  have f2 : Fence.wide.fn 138 := trivial
  refine callsIn_of_wp Try.func141 rfl trivial ?_ rfl
  simp only [Try.ntmps141, List.size_toArray, List.length_cons, List.length_nil, Nat.reduceAdd, Nat.reduceSub, Array.replicate_succ, Array.replicate_zero, List.push_toArray, List.append_toArray, List.nil_append, List.cons_append]
  gi_wp2_with (gi_at_make; refine wpListIn_make_zeros _ rfl (.tmp 9) (.tmp 9) rfl (m := N) (by omega) rfl rfl ?_; intro w1 HN1 HB1)
  obtain ⟨wb, hwb⟩ : ∃ b, b = W.heap.size := ⟨_, rfl⟩
  rw [← hwb]
  have HI1 : Hid (WaysI J w w1 wb N 0 (digT us 0)) := Lib.hid (by
    have hlt : wb < w1.heap.size := by
      have := HN1.out.row.lt W.heap.size rfl
      omega
    refine ⟨HST.out _ _ HB1.out (fun k hk => ?_), ?_, HW.out.trans (HB1.out.mono HW.out.size), hlt, by rw [hwb]; exact HW.out.size⟩
    · have hk' : k = wb := hk
      subst hk'
      exact ⟨by omega, hlt⟩
    · rw [digT_zero, HN.out.1, hwb]
      exact HN1.out.row)
  have HWB := Lib.hid hwb
  clear hwb HN1 HB1 c3 c4
  gi_loopg [5] (prodW us) (fun g _ wr => ∃ k, g + k = prodW us ∧ 0 < g ∧ Hid (WaysI J w wr wb N k (digT us k)))
  case atStart => exact ⟨0, by omega, prodW_pos us, HI1⟩
  case round =>
    obtain ⟨k, hgk, hg0, HI⟩ := hrel
    obtain ⟨-, c4, hrw⟩ := HT.out wr HI.out.below
    have HRW := Lib.hid hrw
    have HOF : Hid (∀ x ∈ digT us k, x ≤ 4611686018427387904) := Lib.hid (fun x hx => by
      obtain ⟨j, hj, rfl⟩ := List.getElem_of_mem hx
      have hj' : j < us.length := by rwa [digT_len] at hj
      have h1 := digT_lt us k j hj' hj
      have h2 := U0.ways_le (HN.out.2 _ (List.getElem_mem hj'))
      omega)
    clear hrw
    gi_wp2_with fail
    refine (callsIn_wide.2 (of_b HN.out.1 HRW.out.read (by omega) HN.out.2 (by rw [digT_len, HN.out.1]) HI.out.row.read HOF.out)).mono ?_
    rintro e w2 ⟨o1, m1, cc1, rfl, hm1, hX⟩
    have hI2 := HI.out.grown HJ.out hX.below
    have hyy := HY.out (fun i => i = wb) k ⟨o1, m1, cc1⟩ wr w2 (fun i hi => by
      have hi' : i = wb := hi
      subst hi'
      exact ⟨by rw [HWB.out]; exact Nat.le_refl _, hI2.size⟩) HI.out.j (Only.of_below hX.below (Nat.le_refl _) _) (by have h3 := HI.out.size; have h4 := HWB.out; omega) ⟨hm1, hX.row, fun i hi => by
      have h1 := hX.own i hi
      have h2 := HI.out.below.size
      have h3 := HI.out.size
      have h4 := HWB.out
      exact ⟨by omega, fun e => by have e' : i = wb := e; omega⟩⟩ (by omega)
    obtain ⟨fn, tmps, assign, body, hy, hR⟩ := hyy
    have hy' : (Instr.yield l #[.agg #[.slice o1 m1 cc1]]).run Try.prog w2 = .ok (.round l fn tmps assign body) w2 := hy
    have HRD := Lib.hid hR
    have HI2 := Lib.hid hI2
    clear hy hR hI2 hX hm1 c4
    gi_wp2_with fail
    refine HRD.out.mono ?_
    rintro e W3 (⟨rfl, hJ3, hk3⟩ | ⟨rfl, hJx3, -⟩)
    · have HI3 : Hid (WaysI J w W3 wb N (k + 1) (rowM us k N)) := Lib.hid (by
        have hrow := rowM_full us k
        rw [HN.out.1] at hrow
        rw [hrow]
        refine ⟨hJ3, HI2.out.row.kept (fun i hi => ?_), HI2.out.below.trans (hk3.below (fun i hi h => by omega) HI2.out.below.size), Nat.lt_of_lt_of_le HI2.out.size hk3.size, HI2.out.low⟩
        simp only [Value.ownBlock, Option.some.injEq] at hi
        subst hi
        exact hk3.block _ HI2.out.size (fun h => h.2 rfl))
      obtain ⟨-, c4, -⟩ := HT.out W3 HI3.out.below
      have HEND : Hid (EndsFrom us k N) := Lib.hid (by have := ends_full us k; rwa [HN.out.1] at this)
      clear hJ3 hk3 hy'
      gi_wp2_with fail
      gi_loopw [5] (fun i wi => ∃ m : Nat, i = .int .i64 ((m : Int) - 1) ∧ m ≤ N ∧ Hid (WaysI J w wi wb N (k + 1) (rowM us k m)) ∧ Hid (EndsFrom us k m)) (fun i _ => (intOf i + 1).toNat)
      case atStart => exact ⟨N, rfl, Nat.le_refl _, HI3, HEND⟩
      case round =>
        obtain ⟨m, rfl, hm, HI4, HE4⟩ := hrel
        obtain ⟨-, c4, hrw⟩ := HT.out wr HI4.out.below
        have cQ4 := cell_regrown c4
        cases m with
        | zero =>
          have hneg : ((0 : Nat) : Int) - 1 = -1 := rfl
          rw [hneg]
          have HE : Hid (k + 1 = prodW us) := Lib.hid (by
            have h1 := HE4.out
            unfold EndsFrom at h1
            rw [List.drop_zero, Nat.mod_eq_of_lt (by omega)] at h1
            exact h1)
          clear hrw hneg c4
          gi_wp2_with fail
          refine wpIn_region_quiet_below rfl (by kernel_rfl) (by kernel_rfl) ?_
          repeat (quiet_step_in (fail))
          refine wpQuietIn_nil ?_
          intro _ hw'
          obtain ⟨⟨dq, osq⟩, hw''⟩ := hw'
          subst hw''
          have HI5 := Lib.hid (HI4.out.grown HJ.out (below_regrown wr dq osq))
          gi_wp2_with fail
          refine bodyPost_ret (results_none rfl _ _ _) rfl ?_
          exact ⟨⟨_, rfl⟩, .inl ⟨_, by rw [← HE.out]; exact HI5.out.j⟩⟩
        | succ j =>
          have hj : j < us.length := by rw [HN.out.1]; omega
          have hjj : ((j + 1 : Nat) : Int) - 1 = (j : Int) := by omega
          rw [hjj]
          obtain ⟨u, hu⟩ : ∃ u, us[j] = u := ⟨_, rfl⟩
          have hum : u.more ≤ 16777216 := HN.out.2 u (by rw [← hu]; exact List.getElem_mem _)
          obtain ⟨g2, off, rfl⟩ := hrw.addr (by omega)
          obtain ⟨r, hr⟩ : ∃ r, k / prodW (us.drop (j + 1)) % us[j].ways = r := ⟨_, rfl⟩
          have hrl : r < us[j].ways := by rw [← hr]; exact Nat.mod_lt _ us[j].ways_pos
          have hwl : us[j].ways ≤ 16777218 := U0.ways_le (by rw [hu]; exact hum)
          obtain ⟨ub, hub⟩ : ∃ b, u.name = b := ⟨_, rfl⟩
          obtain ⟨um, humm⟩ : ∃ m, u.more = m := ⟨_, rfl⟩
          have hue : u = ⟨ub, um⟩ := by rw [← hub, ← humm]
          have k00 : wr.cell? ⟨g2, off + j * 2, none⟩ = some (.bool ub) := us_cell (i := 0) hrw.read hj (by omega) (by rw [hu, hue]; rfl)
          have k0 := cell_regrown k00
          have k1 := cell_regrown (us_cell (i := 1) hrw.read hj (by omega) (by rw [hu, hue]; rfl) : wr.cell? ⟨g2, off + j * 2 + 1, none⟩ = some (.int .i64 um))
          have kd0 : wr.cell? ⟨wb, j, none⟩ = some (.int .i64 r) := by
            have := HI4.out.row.read.cellAt (i := j) (u := .int .i64 r) (by unfold natCells; rw [List.getElem?_map, rowM_get hj, hr]; rfl)
            simpa using this
          have kd := cell_regrown kd0
          obtain ⟨Wy, hWy⟩ : ∃ x, (U0.mk ub um).ways = x := ⟨_, rfl⟩
          have hWu : us[j].ways = Wy := by rw [hu, hue, hWy]
          have cQ : ∀ d os, CallsIn Fence.wide (n - 1) Try.prog 138 #[.agg #[.bool ub, .int .i64 um]] (grow (redrawn wr d) os) fun e w'' => e = .returned (.int .i64 Wy) ∧ ∃ p : Regrown, w'' = grow (redrawn wr p.d) p.os := fun d os => CallsIn.regrown_of (callsIn_wide.2 (by rw [← hWy]; exact ways_b ub um (by rw [← humm]; exact hum) _))
          rw [hWu] at hr hrl hwl
          have HR := Lib.hid (And.intro hj (And.intro hr hWu))
          clear k00 hrw hjj c4 hu hue hum hub humm hWy hr hWu kd0
          have hjN : j < N := by omega
          have hj0 : ((0 : Int) ≤ (j : Int)) := by omega
          have hd0 : decide ((0 : Int) ≤ (j : Int)) = true := decide_eq_true hj0
          have hjn : (j : Int) < (N : Int) := by omega
          have hwrap : IntKind.i64.wrap ((Wy : Int) - 1) = (Wy : Int) - 1 := by rw [IntKind.wrap_i64]; omega
          by_cases hend : r + 1 = Wy
          · have hd : ((r : Int) == (Wy : Int) - 1) = true := beq_iff_eq.2 (by omega)
            gi_wp2_with fail
            refine wpIn_region_quiet_below rfl (by kernel_rfl) (by kernel_rfl) ?_
            repeat (quiet_step_in (first | exact ⟨fun _ => by omega, cQ _ _⟩ | exact cQ _ _))
            refine wpQuietIn_nil ?_
            intro _ hw'
            obtain ⟨⟨dq, osq⟩, hw''⟩ := hw'
            obtain ⟨w5, hw5⟩ : ∃ V, V = grow (redrawn wr dq) osq := ⟨_, rfl⟩
            have hI5 := HI4.out.grown HJ.out (below_regrown wr dq osq)
            have kd5 := kd dq osq
            subst hw''
            rw [← hw5] at hI5 kd5 ⊢
            have z5 : w5.frozen? ⟨wb, j, none⟩ = false := by have := hI5.row.freeAt (j := j) (by omega); rwa [Nat.zero_add] at this
            have HI5 := Lib.hid hI5
            clear hI5 hw5 kd k0 k1 cQ cQ4 hd hd0 hwrap
            gi_wp2_with fail
            have HI6 := HI5.out.digit HJ.out hjN 0
            rw [rowM_zero HR.out.1] at HI6
            exact ⟨⟨j, by first | rfl | simp, by omega, Lib.hid HI6, Lib.hid (ends_step HR.out.1 HE4.out (by rw [HR.out.2.2, HR.out.2.1]; exact hend))⟩, by first | (simp [intOf]; done) | (simp [intOf]; omega)⟩
          · have hd : ((r : Int) == (Wy : Int) - 1) = false := beq_eq_false_iff_ne.2 (by omega)
            gi_wp2_with fail
            refine wpIn_region_quiet_below rfl (by kernel_rfl) (by kernel_rfl) ?_
            repeat (quiet_step_in (first | exact ⟨fun _ => by omega, cQ _ _⟩ | exact cQ _ _))
            refine wpQuietIn_nil ?_
            intro _ hw'
            obtain ⟨⟨dq, osq⟩, hw''⟩ := hw'
            obtain ⟨w5, hw5⟩ : ∃ V, V = grow (redrawn wr dq) osq := ⟨_, rfl⟩
            have hI5 := HI4.out.grown HJ.out (below_regrown wr dq osq)
            have kd5 := kd dq osq
            subst hw''
            rw [← hw5] at hI5 kd5 ⊢
            have z5 : w5.frozen? ⟨wb, j, none⟩ = false := by have := hI5.row.freeAt (j := j) (by omega); rwa [Nat.zero_add] at this
            have HI5 := Lib.hid hI5
            have HEN := Lib.hid hend
            have hneg : ¬ ((j : Int) < 0) := by omega
            clear hI5 hw5 kd k0 k1 cQ cQ4 hd hd0 hwrap hend
            gi_wp2_with fail
            have HI6 := HI5.out.digit HJ.out hjN (r + 1)
            have hnx := rowM_next HR.out.1 HE4.out (by rw [HR.out.2.2, HR.out.2.1]; exact HEN.out)
            rw [HR.out.2.2, HR.out.2.1] at hnx
            rw [hnx] at HI6
            have hlt : 0 < gk - 1 := by
              refine Nat.pos_of_ne_zero (fun e => HEN.out ?_)
              have h1 := last_digit HR.out.1 (show k + 1 = prodW us by omega)
              rw [HR.out.2.2, HR.out.2.1] at h1
              exact h1
            gi_roundg (gk - 1)
            case measure => omega
            case rel => exact ⟨k + 1, by omega, hlt, Lib.hid HI6⟩
    · have HX3 : Hid (Jx (fun i => i = wb) (k + 1) W3) := Lib.hid hJx3
      clear hJx3 hy'
      gi_wp2_with fail
      refine bodyPost_ret (results_none rfl _ _ _) rfl ?_
      exact ⟨⟨_, rfl⟩, .inr ⟨_, k + 1, by omega, HX3.out⟩⟩
end Go.Proofs.Ytmkjejngnahpeaa
/- stops: Images of a disk that is there: what each way leaves. -/
namespace Go.Proofs.Ytmkjejngnahpeaa
open Go Go.Maps Go.RowKit Go.Shelf Go.Sort
attribute [local go_sem] Oper.semAt_some

theorem ways_told (n : Nat) (hn : 1 ≤ n) (b3 b4 : Nat) (w : World) (us : List U0) (hwo : WaysOf w b3 b4 us) (hlen : us.length ≤ 4096) (hsm : ∀ u ∈ us, u.more ≤ 16777216) :
    SeqTold Fence.wide n Try.prog 141 #[.pointer (some ⟨b3, 0, none⟩), .pointer (some ⟨b4, 0, none⟩)] encW (fun m T pre x W => PkAt us m T pre.length x W) (fun xs => xs.length = prodW us) (fun pre => pre.length ≤ prodW us) (prodW us) w := fun l J Jx W hW hs hJ _ hY => by
  refine (waysIn n hn l b3 b4 w us hwo hlen hsm (fun T j V => ∃ pre, pre.length = j ∧ J T pre V) (fun T j V => ∃ pre, pre.length = j ∧ Jx T pre V) W hW (fun T W1 h1 h2 => ⟨[], rfl, hs T W1 h1 h2⟩) ?_ ?_).mono ?_
  · rintro T j A B ⟨pre, h1, h2⟩ ho
    exact ⟨pre, h1, hJ T pre A B h2 ho⟩
  · rintro T j x Wp W1 hT ⟨pre, rfl, hj⟩ ho hz hpk hlt
    refine (hY T pre x Wp W1 hT hj ho hz hpk hlt).mono (fun e W' hr => ?_)
    rcases hr with ⟨h1, h2, h3⟩ | ⟨h1, h2, h3⟩
    · exact .inl ⟨h1, ⟨_, by simp, h2⟩, h3⟩
    · exact .inr ⟨h1, ⟨_, by simp, h2⟩, h3⟩
  · rintro e W' ⟨he, ⟨T, pre, h1, h2⟩ | ⟨T, j, hj, pre, rfl, h2⟩⟩
    · exact ⟨he, .inl ⟨T, pre, h1, h2⟩⟩
    · exact ⟨he, .inr ⟨T, pre, hj, h2⟩⟩
def imagesV (bs bm : Nat) : Value := .func (.func 142) #[] #[.pointer (some ⟨bs, 0, none⟩), .pointer (some ⟨bm, 0, none⟩)]
/-- the iterator's two variables: the ways; the disk -/
def ImagesOf (w : World) (bs bm : Nat) (us : List U0) (d : Dk) : Prop :=
  ∃ b3 b4 qo S, w.heap[bs]? = some (.cells #[allV b3 b4] 140 (0, 0)) ∧ w.heap[bm]? = some (.cells #[.pointer (some ⟨qo, 0, none⟩)] 37 (0, 0)) ∧ WaysOf w b3 b4 us ∧ DiskAt w S qo d
theorem ImagesOf.below {w w' : World} {bs bm : Nat} {us : List U0} {d : Dk} (h : ImagesOf w bs bm us d) (hb : Below w.heap.size w w') : ImagesOf w' bs bm us d := by
  obtain ⟨b3, b4, qo, S, h1, h2, h3, h4⟩ := h
  exact ⟨b3, b4, qo, S, (hb.block bs (Array.getElem?_eq_some_iff.1 h1).1).trans h1, (hb.block bm (Array.getElem?_eq_some_iff.1 h2).1).trans h2, h3.below hb, h4.below hb⟩
/-- .. and all of it is newer than n0 -/
def ImagesNew (n0 : Nat) (w : World) (bs bm : Nat) (us : List U0) (d : Dk) : Prop :=
  n0 ≤ bs ∧ n0 ≤ bm ∧ ∃ b3 b4 qo S, w.heap[bs]? = some (.cells #[allV b3 b4] 140 (0, 0)) ∧ w.heap[bm]? = some (.cells #[.pointer (some ⟨qo, 0, none⟩)] 37 (0, 0)) ∧ WaysNew n0 w b3 b4 us ∧ DiskAt w S qo d ∧ ∀ k, S k → n0 ≤ k
theorem ImagesNew.images {n0 : Nat} {w : World} {bs bm : Nat} {us : List U0} {d : Dk} (h : ImagesNew n0 w bs bm us d) : ImagesOf w bs bm us d := by
  obtain ⟨-, -, b3, b4, qo, S, h1, h2, h3, h4, -⟩ := h
  exact ⟨b3, b4, qo, S, h1, h2, h3.ways, h4⟩
theorem ImagesNew.only {n0 : Nat} {w w' : World} {bs bm : Nat} {us : List U0} {d : Dk} {X : Nat → Prop} (h : ImagesNew n0 w bs bm us d) (ho : Only X w w') (hX : ∀ k, X k → k < n0) : ImagesNew n0 w' bs bm us d := by
  obtain ⟨t1, t2, b3, b4, qo, S, h1, h2, h3, h4, h5⟩ := h
  refine ⟨t1, t2, b3, b4, qo, S, (ho.block bs (Array.getElem?_eq_some_iff.1 h1).1 (fun e => by have := hX _ e; omega)).trans h1, (ho.block bm (Array.getElem?_eq_some_iff.1 h2).1 (fun e => by have := hX _ e; omega)).trans h2, h3.only ho hX, ?_, h5⟩
  obtain ⟨mb, fv, L, h⟩ := h4
  exact ⟨mb, fv, L, h.only ho (fun k hk e => by have := hX _ e; have := h5 k hk; omega)⟩
theorem ImagesNew.below {n0 : Nat} {w w' : World} {bs bm : Nat} {us : List U0} {d : Dk} (h : ImagesNew n0 w bs bm us d) (hb : Below w.heap.size w w') : ImagesNew n0 w' bs bm us d :=
  h.only (Only.of_below hb (Nat.le_refl _) (fun _ => False)) (fun _ hf => hf.elim)
set_option maxRecDepth 100000 in
set_option maxHeartbeats 1000000 in
theorem sImages_new {w : World} {S : Nat → Prop} {q : Nat} {d : Dk} (h : DiskAt w S q d) (hfm : d.fates.length ≤ 1000000000) :
    Calls Try.prog 81 #[.pointer (some ⟨q, 0, none⟩)] w fun e w' => ∃ bs bm, e = .returned (imagesV bs bm) ∧ ImagesNew w.heap.size w' bs bm (unsT d.files) d ∧ Below w.heap.size w w' := by
  have H := Lib.hid h
  clear h
  go_enter Try.func81, Try.ntmps81
  go_wp2_with fail
  refine (sAll_new H.out hfm).mono ?_
  rintro e w1 ⟨b3, b4, rfl, hn, hb1⟩
  unfold allV
  obtain ⟨w2, hw2⟩ : ∃ W : World, W = w1.alloc (.cells #[.func (.func 141) #[] #[.pointer (some ⟨b3, 0, none⟩), .pointer (some ⟨b4, 0, none⟩)]] 140) := ⟨_, rfl⟩
  obtain ⟨bs, hbs⟩ : ∃ b, b = w1.heap.size := ⟨_, rfl⟩
  have hs2 : w2.heap[bs]? = some (.cells #[allV b3 b4] 140 (0, 0)) := by rw [hw2, hbs]; exact alloc_cells _ _ _
  have hb12 : Below w1.heap.size w1 w2 := by rw [hw2]; exact (Below.refl _ _).alloc (Nat.le_refl _) _
  have HSZ : Hid (w.heap.size ≤ bs ∧ w.heap.size ≤ w2.heap.size) := Lib.hid ⟨by rw [hbs]; exact hb1.size, (hb1.trans (hb12.mono hb1.size)).size⟩
  have H2 := Lib.hid (And.intro ((H.out.below hb1).below hb12) (And.intro hs2 (And.intro (hn.below hb12) (hb1.trans (hb12.mono hb1.size)))))
  clear hs2 hb12 hn hb1
  go_upto_region 2 with fail
  rw [← hw2, ← hbs]
  clear hw2 hbs
  go_wp2_with fail
  refine (copy_b H2.out.1 hfm).mono ?_
  rintro e w3 ⟨qo, rfl, hd3, hb3⟩
  have H3 := Lib.hid (And.intro hd3 hb3)
  clear hd3 hb3
  go_wp2_with fail
  go_ret
  have hb4 : Below w3.heap.size w3 (w3.alloc (.cells #[.pointer (some ⟨qo, 0, none⟩)] 37)) := (Below.refl _ _).alloc (Nat.le_refl _) _
  have hb24 := H3.out.2.trans (hb4.mono H3.out.2.size)
  exact ⟨bs, w3.heap.size, rfl, ⟨HSZ.out.1, by have := H3.out.2.size; have := HSZ.out.2; omega, b3, b4, qo, _, (hb24.block bs (Array.getElem?_eq_some_iff.1 H2.out.2.1).1).trans H2.out.2.1, alloc_cells _ _ _, H2.out.2.2.1.below hb24, H3.out.1.below hb4, fun k hk => by have := hk.1; have := HSZ.out.2; omega⟩, H2.out.2.2.2.trans (hb24.mono H2.out.2.2.2.size)⟩
theorem sImages_b {w : World} {S : Nat → Prop} {q : Nat} {d : Dk} (h : DiskAt w S q d) (hfm : d.fates.length ≤ 1000000000) :
    Calls Try.prog 81 #[.pointer (some ⟨q, 0, none⟩)] w fun e w' => ∃ bs bm, e = .returned (imagesV bs bm) ∧ ImagesOf w' bs bm (unsT d.files) d ∧ Below w.heap.size w w' :=
  (sImages_new h hfm).mono (fun _ _ ⟨bs, bm, h1, h2, h3⟩ => ⟨bs, bm, h1, h2.images, h3⟩)
/-- a slice and a disk -/
structure ImV where
  s : SlV
  q : Nat
def encI (x : ImV) : Array Value := #[.agg #[.slice x.s.oa x.s.n x.s.c], .pointer (some ⟨x.q, 0, none⟩)]
/-- the picks of the j-th way -/
def picksOf (us : List U0) (j : Nat) : List Int := (ofT us (digT us j) []).map fun (x : Nat) => (x : Int)
theorem picksOf_cells (us : List U0) (j : Nat) : natCells (ofT us (digT us j) []) = intCells (picksOf us j) := by
  unfold natCells intCells picksOf
  rw [List.map_map]
  rfl
theorem picksOf_ge (us : List U0) (j : Nat) : AllGe (picksOf us j) := fun x hx => by
  obtain ⟨y, _, rfl⟩ := List.mem_map.1 hx
  exact Int.natCast_nonneg y
theorem ofT_len : ∀ (l : List U0) (ws out : List Nat), (ofT l ws out).length ≤ out.length + 2 * l.length
  | [], ws, out => by
    cases ws <;> simp [ofT]
  | u :: l, [], out => by simp only [ofT]; omega
  | u :: l, x :: r, out => by
    have h1 := ofT_len l r (ofStep out u x)
    have h2 := ofStep_len out u x
    simp only [ofT, List.length_cons]
    omega
theorem ofT_small {M : Nat} (hM : 1 ≤ M) : ∀ (l : List U0) (ws out : List Nat), (∀ x ∈ ws, x ≤ M) → (∀ x ∈ out, x ≤ M) → ∀ x ∈ ofT l ws out, x ≤ M
  | [], ws, out, _, h => by
    cases ws <;> exact h
  | u :: l, [], out, _, h => h
  | u :: l, y :: r, out, hw, h => by
    refine ofT_small hM l r (ofStep out u y) (fun x hx => hw x (List.mem_cons_of_mem _ hx)) (fun x hx => ?_)
    have hy := hw y (List.mem_cons_self ..)
    unfold ofStep at hx
    split at hx
    · split at hx
      · rcases List.mem_append.1 hx with h1 | h1
        · exact h x h1
        · simp only [List.mem_singleton] at h1; omega
      · split at hx
        · rcases List.mem_append.1 hx with h1 | h1
          · rcases List.mem_append.1 h1 with h2 | h2
            · exact h x h2
            · simp only [List.mem_singleton] at h2; omega
          · simp only [List.mem_singleton] at h1; omega
        · rcases List.mem_append.1 hx with h1 | h1
          · exact h x h1
          · simp only [List.mem_singleton] at h1; omega
    · split at hx
      · rcases List.mem_append.1 hx with h1 | h1
        · exact h x h1
        · simp only [List.mem_singleton] at h1; omega
      · exact h x hx
theorem picksOf_len {us : List U0} (hlen : us.length ≤ 4096) (j : Nat) : (picksOf us j).length ≤ 10000 := by
  unfold picksOf
  rw [List.length_map]
  have := ofT_len us (digT us j) []
  simp only [List.length_nil] at this
  omega
theorem picksOf_max {us : List U0} (hsm : ∀ u ∈ us, u.more ≤ 16777216) (j : Nat) : ∀ x ∈ picksOf us j, x ≤ 16777218 := fun x hx => by
  obtain ⟨y, hy, rfl⟩ := List.mem_map.1 hx
  have := ofT_small (M := 16777218) (by omega) us (digT us j) [] (fun z hz => by
    obtain ⟨i, hi, rfl⟩ := List.getElem_of_mem hz
    have hi' : i < us.length := by rwa [digT_len] at hi
    have h1 := digT_lt us j i hi' hi
    have h2 := U0.ways_le (hsm _ (List.getElem_mem hi'))
    omega) (fun z hz => by cases hz) y hy
  omega
/-- the j-th way's picks, and the disk that it leaves, lie there apart from T -/
def ImAt (us : List U0) (d : Dk) (n₀ : Nat) (T : Nat → Prop) (j : Nat) (x : ImV) (W : World) : Prop :=
  PkAt us n₀ T j x.s W ∧ ∃ S, DiskAt W S x.q (d.crash (picksOf us j)) ∧ ∀ k, S k → n₀ ≤ k ∧ ¬ T k
end Go.Proofs.Ytmkjejngnahpeaa
