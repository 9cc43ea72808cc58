/- The texts Zvk in one. -/
import Derived.Test.YtmkjejngnahpeaaV18
/- law07: DiskPlay: Append. -/
namespace Go.Proofs.Ytmkjejngnahpeaa
open Go Go.Maps Go.RowKit

theorem rowAt.capLe {w : World} {e : TypeId} {size n c : Nat} {oa : Option Addr} {xs : List Value} (h : rowAt w e size (.slice oa n c) n xs) : n ≤ c := by
  obtain ⟨_, _, hv, hc⟩ := h.shape
  cases hv
  exact hc
theorem cell_alloc {V : World} {b i : Nat} {u : Value} (h : V.cell? ⟨b, i, none⟩ = some u) (o : Obj) : (V.alloc o).cell? ⟨b, i, none⟩ = some u :=
  (((Below.refl _ V).alloc (Nat.le_refl _) o).cell (p := ⟨b, i, none⟩) (World.block_lt_of_cell? _ _ h)).trans h
noncomputable def playL2 : Code := cB (cB (cB playA2))
noncomputable def playR2 : Code := cB playA2
theorem play_a2 : playA2 = .seq (cA playA2) playR2 := by kernel_rfl
theorem play_r2 : playR2 = .seq (cA playR2) (.seq (cA (cB playR2)) playL2) := by kernel_rfl
theorem byteCells_length (l : List UInt8) : (byteCells l).length = l.length := by simp [byteCells]
section
variable {B : Nat} {w w' V : World} {S1 S2 S3 S4 : Nat → Prop} {q p qo po : Nat} {d1 d2 o1 o2 : Dk}
theorem Four.did1x {r : Int × Dk} {er : Int} {dn : Dk} {e : Ending} (h : Four B w S1 S2 S3 S4 q p qo po d1 d2 o1 o2) (hb : Below w.heap.size w V) (hB : B ≤ w.heap.size) (hr : r = (er, dn)) (ho : OpIs V S1 q r e w') :
    e = .returned (.int .i64 er) ∧ ∃ T, Four B w' T S2 S3 S4 q p qo po dn d2 o1 o2 ∧ Only S1 w w' ∧ ∀ k, T k → S1 k ∨ w.heap.size ≤ k := by
  subst hr
  exact ⟨ho.1, Wid S1 V w', (h.below hb).op1 (Nat.le_trans hB hb.size) ho.2.1 ho.2.2, (Only.of_below hb (Nat.le_refl _) S1).trans ho.2.2 (fun _ _ h => h), fun k hk => hk.elim .inl (fun h => .inr (Nat.le_trans hb.size h.1))⟩
theorem Four.did2x {r : Int × Dk} {er : Int} {dn : Dk} {e : Ending} (h : Four B w S1 S2 S3 S4 q p qo po d1 d2 o1 o2) (hb : Below w.heap.size w V) (hB : B ≤ w.heap.size) (hr : r = (er, dn)) (ho : ROpIs V S2 p r e w') :
    e = .returned (.int .i64 er) ∧ ∃ T, Four B w' S1 T S3 S4 q p qo po d1 dn o1 o2 ∧ Only S2 w w' ∧ ∀ k, T k → S2 k ∨ w.heap.size ≤ k := by
  subst hr
  exact ⟨ho.1, Wid S2 V w', (h.below hb).op2 (Nat.le_trans hB hb.size) ho.2.1 ho.2.2, (Only.of_below hb (Nat.le_refl _) S2).trans ho.2.2 (fun _ _ h => h), fun k hk => hk.elim .inl (fun h => .inr (Nat.le_trans hb.size h.1))⟩
end
theorem frR_go17 {ob : Option Addr} {n cb q p qo po j : Nat} {v14 v15 v16 v104 : Value} {c : Code} {Q : Exit → Act → World → Prop} {w : World} {l : Array Value} (i1 : Nat) (x1 : Value) (h : l = frR ob n cb q p qo po j v14 v15 v16 v104 (fun k => l.toList.getD k undef)) (h1 : l.toList.getD i1 undef = x1) (H : ∀ u : Nat → Value, u i1 = x1 → Code.wp Try.prog c Q ⟨frR ob n cb q p qo po j v14 v15 v16 v104 u, []⟩ w) : Code.wp Try.prog c Q ⟨l, []⟩ w := by
  rw [h]
  exact H _ h1
set_option maxRecDepth 100000 in
set_option maxHeartbeats 8000000 in
theorem play_loop2 {W w6 : World} {ob o1 : Option Addr} {n cb q p qo po j b14 lx c1 : Nat} {kd er : Int} {d o : Dk} {S1 S2 S3 S4 : Nat → Prop} {K : Act → World → Prop} {by1 : List UInt8} {xs0 : List Value} {u : Nat → Value} (hp : PlayR W w6 S1 S2 S3 S4 q p qo po d o (j + 1)) (hQ : ArmQ W ob n cb j b14 K) (h17 : u 17 = .slice o1 lx c1) (hr : rowAt w6 5 1 (.slice o1 (lx + 1) c1) (lx + 1) xs0) (hxs : ∀ i, i < by1.length → xs0[i]? = (byteCells by1)[i]?) (hlx : by1.length = lx) (hl : lx ≤ 3000)
    (hno : ∀ z, (Value.slice o1 (lx + 1) c1).ownBlock = some z → (¬ S1 z ∧ ¬ S2 z ∧ ¬ S3 z ∧ ¬ S4 z) ∧ W.heap.size ≤ z) : Code.wp Try.prog playL2 (Exit.then K (fun _ _ _ => False)) ⟨frR ob n cb q p qo po j (.pointer (some ⟨b14, 0, none⟩)) (.int .i64 er) (.int .i64 er) (.int .i64 kd) u, []⟩ w6 := by
  have H6 := Lib.hid (And.intro hr (And.intro hlx (And.intro hno (And.intro hp hxs))))
  have HQ := Lib.hid hQ
  clear hr hlx hno hp hQ hxs
  unfold frR
  rw [h17]
  clear h17
  conv => arg 2; whnf
  go_wp2_with fail
  go_loopw [18] (fun i wr => ∃ k : Nat, k ≤ lx ∧ i = .int .i64 k ∧ Hid (Bump w6 wr o1 (lx + 1) c1 k by1)) (fun i _ => lx - (intOf i).toNat)
  case atStart => exact ⟨0, Nat.zero_le _, rfl, Lib.hid (Bump.start H6.out.1 H6.out.2.2.2.2)⟩
  case round =>
    obtain ⟨k, hk, rfl, HU⟩ := hrel
    by_cases hlt : k < lx
    · obtain ⟨xs, hxr, -⟩ := HU.out.row
      obtain ⟨g, off, rfl⟩ := hxr.addr (by omega)
      obtain ⟨kx, zx⟩ := HU.out.cell (by rw [H6.out.2.1]; exact hlt) (by omega)
      obtain ⟨vb, hvb⟩ : ∃ vb : Int, (by1[k]'(by rw [H6.out.2.1]; exact hlt)).toNat = vb := ⟨_, rfl⟩
      rw [hvb] at kx
      clear hxr hvb
      go_wp2_with fail
      exact ⟨⟨k + 1, by omega, by simp, Lib.hid (HU.out.next (by omega) _)⟩, by simp [intOf]; omega⟩
    · obtain rfl : k = lx := by omega
      go_wp2_with fail
      exact HQ.out.go q p qo po d o S1 S2 S3 S4 er (.int .i64 kd) ⟨H6.out.2.2.2.1.four.only HU.out.only (fun z hz => (H6.out.2.2.1 z hz).1), H6.out.2.2.2.1.below.trans (HU.out.only.below (fun i hi e => by have := (H6.out.2.2.1 i e).2; omega) H6.out.2.2.2.1.below.size), H6.out.2.2.2.1.few⟩ (by kernel_rfl)
/-- what region 25 leaves: a slice of one's own with the bytes, and one byte behind them -/
def NewX (w2 wx : World) (lb : Nat) (b : List UInt8) (o7 : Option Addr) (c7 : Nat) : Prop :=
  rowAt wx 5 1 (.slice o7 (lb + 1) c7) (lb + 1) (byteCells b ++ [.int .u8 77]) ∧ Below w2.heap.size w2 wx ∧ ∀ k, (Value.slice o7 (lb + 1) c7).ownBlock = some k → w2.heap.size ≤ k
theorem NewX.drew {w2 wx : World} {lb : Nat} {b : List UInt8} {o7 : Option Addr} {c7 : Nat} (h : NewX w2 wx lb b o7 c7) : NewX w2 wx.drew lb b o7 c7 := ⟨h.1.kept (fun _ _ => rfl), Below.drewR h.2.1, h.2.2⟩
theorem hold34 {V : World} {b : Nat} {u1 u2 : Value} (h : V.cell? ⟨b, 3, none⟩ = some u1 ∧ V.cell? ⟨b, 4, none⟩ = some u2) : V.drew.cell? ⟨b, 3, none⟩ = some u1 ∧ V.drew.cell? ⟨b, 4, none⟩ = some u2 := h
set_option maxRecDepth 100000 in
set_option maxHeartbeats 8000000 in
theorem play_rest2 {W w2 wx : World} {ob oB oF oP o7 : Option Addr} {n cb q p qo po j b14 lb lf lp cB cF cP c7 : Nat} {kd er : Int} {x : StepT} {d o dn : Dk} {S1 S2 S3 S4 : Nat → Prop} {K : Act → World → Prop} {u : Nat → Value} (h : StepH W w2 oB oF oP q p qo po j b14 lb lf lp cB cF cP kd x d o S1 S2 S3 S4) (hQ : ArmQ W ob n cb j b14 K) (hr : d.append x.name.data.toList x.bytes = (er, dn)) (hfew : dn.fates.length ≤ 100 + 100 * (j + 1)) (h17 : u 17 = .slice o7 lb c7) (hx : NewX w2 wx lb x.bytes o7 c7) :
    Code.wp Try.prog playR2 (Exit.then K (fun _ _ _ => False)) ⟨frR ob n cb q p qo po j (.pointer (some ⟨b14, 0, none⟩)) (.int .i64 0) (.int .i64 0) (.int .i64 kd) u, []⟩ wx := by
  have hb2 := hx.2.1
  have hs14 := (hb2.block b14 h.lt).trans h.cells
  have hS : wx.cell? ⟨b14, 3, none⟩ = some (.string x.name) ∧ wx.cell? ⟨b14, 4, none⟩ = some (.slice oB lb cB) := ⟨cell_of hs14 rfl, cell_of hs14 rfl⟩
  have hfx := h.play.four.below hb2
  have hrd : readAt wx 1 (.slice o7 lb c7) lb (byteCells x.bytes) := by
    have h1 := hx.1.read.take lb (by omega)
    rw [List.take_left' (by rw [byteCells_length, h.hlb, Nat.mul_one])] at h1
    exact h1
  have hrb : readAt wx 1 (.slice oB lb cB) lb (byteCells x.bytes) := by
    have h1 := h.bytes.kept (fun k hk _ _ => hb2.block k hk)
    rwa [h.hlb] at h1
  have hlb : lb ≤ 3000 := h.small.1
  have HA1 : Hid (∀ V : World, Below wx.heap.size wx V → Calls Try.prog 46 #[.pointer (some ⟨q, 0, none⟩), .string x.name, .slice o7 lb c7] V fun e w' => OpIs V S1 q (d.append x.name.data.toList x.bytes) e w') := Lib.hid (fun V hb => by
    have := append_b (hfx.below hb).one x.name h.name o7 c7 x.bytes (by show readAt V 1 (.slice o7 x.bytes.length c7) x.bytes.length (byteCells x.bytes); rw [h.hlb]; exact hrd.kept (fun k hk _ _ => hb.block k hk)) (fun k hk _ e => by
      have h1 := hx.2.2 k (by cases o7 <;> exact hk)
      have h2 := h.play.four.one.low2 k e
      omega) (by rw [h.hlb]; omega)
    rwa [h.hlb] at this)
  have HA2 : Hid (∀ V : World, readAt V 1 (.slice oB lb cB) lb (byteCells x.bytes) → RfAt V S2 p d → Calls Try.prog 56 #[.pointer (some ⟨p, 0, none⟩), .string x.name, .slice oB lb cB] V fun e w' => ROpIs V S2 p (d.append x.name.data.toList x.bytes) e w') := Lib.hid (fun V hrV hV => by
    have := refAppend_b hV x.name h.name oB cB x.bytes (by rw [h.hlb]; exact hrV) (fun k hk h0 e => by
      rw [h.hlb] at hk h0
      have h1 := h.lo1 k hk h0
      have h2 := h.play.four.low2 k e
      omega)
    rwa [h.hlb] at this)
  have H := Lib.hid (And.intro h (And.intro hx (And.intro hfx (And.intro hrb hs14))))
  have HQ := Lib.hid hQ
  have HR := Lib.hid (And.intro hr hfew)
  clear h hx hfx hrb hs14 hrd hQ hr hfew hb2
  unfold frR
  rw [h17, play_r2]
  clear h17
  refine wp_seq_k fun K2 hK2 => ?_
  have HK2 := Lib.hid hK2
  clear hK2
  conv => arg 2; whnf
  go_region_held3 (fun V => V.cell? ⟨b14, 3, none⟩ = some (.string x.name) ∧ V.cell? ⟨b14, 4, none⟩ = some (.slice oB lb cB))
    (first | assumption | exact hold34 (by assumption))
    (first
      | (go_at_call 46; refine (HA1.out _ (by first | exact Below.refl _ _ | exact bdrew0 _)).mono ?_; rintro e w5 ho; obtain ⟨he, T1, h5, ho5, ht5⟩ := H.out.2.2.1.did1x (by first | exact Below.refl _ _ | exact bdrew0 _) (Nat.le_trans H.out.1.play.below.size H.out.2.1.2.1.size) HR.out.1 ho; subst he; have hs5 := (ho5.block b14 (Nat.lt_of_lt_of_le H.out.1.lt H.out.2.1.2.1.size) H.out.1.n1).trans H.out.2.2.2.2; have hr5 : readAt w5 1 (.slice oB lb cB) lb (byteCells x.bytes) := H.out.2.2.2.1.kept (fun k hk hob h0 => ho5.block k hk (fun e => by have h1 := H.out.1.lo1 k hob h0; have h2 := H.out.1.play.four.low1 k e; omega)); have H5 := Lib.hid (And.intro h5 (And.intro ho5 (And.intro hr5 ht5))); have hS5 : w5.cell? ⟨b14, 3, none⟩ = some (.string x.name) ∧ w5.cell? ⟨b14, 4, none⟩ = some (.slice oB lb cB) := ⟨cell_of hs5 rfl, cell_of hs5 rfl⟩; clear ho h5 ho5 hs5 hr5 ht5)
      | (go_at_call 56; refine (HA2.out _ (by first | exact H5.out.2.2.1 | exact H5.out.2.2.1.kept (fun _ _ _ _ => rfl)) (H5.out.1.below (by first | exact Below.refl _ _ | exact bdrew0 _)).two).mono ?_; rintro e w6 ho; obtain ⟨he, T2, h6, ho6, ht6⟩ := H5.out.1.did2x (by first | exact Below.refl _ _ | exact bdrew0 _) (Nat.le_trans (Nat.le_trans H.out.1.play.below.size H.out.2.1.2.1.size) H5.out.2.1.size) HR.out.1 ho; subst he; have hs6 := (ho6.block b14 (Nat.lt_of_lt_of_le (Nat.lt_of_lt_of_le H.out.1.lt H.out.2.1.2.1.size) H5.out.2.1.size) H.out.1.n2).trans ((H5.out.2.1.block b14 (Nat.lt_of_lt_of_le H.out.1.lt H.out.2.1.2.1.size) H.out.1.n1).trans H.out.2.2.2.2); have H6 := Lib.hid (And.intro h6 (And.intro ho6 ht6)); have hS6 : w6.cell? ⟨b14, 3, none⟩ = some (.string x.name) ∧ w6.cell? ⟨b14, 4, none⟩ = some (.slice oB lb cB) := ⟨cell_of hs6 rfl, cell_of hs6 rfl⟩; clear ho h6 ho6 hs6 ht6))
  all_goals
    have hx6 : rowAt w6 5 1 (.slice o7 (lb + 1) c7) (lb + 1) (byteCells x.bytes ++ [.int .u8 77]) := (H.out.2.1.1.kept (fun k hk => H5.out.2.1.block k (H.out.2.1.1.lt k hk) (fun e => by have h1 := H.out.2.1.2.2 k hk; have h2 := H.out.1.play.four.one.low2 k e; omega))).kept (fun k hk => H6.out.2.1.block k (Nat.lt_of_lt_of_le (H.out.2.1.1.lt k hk) H5.out.2.1.size) (fun e => by have h1 := H.out.2.1.2.2 k hk; have h2 := H.out.1.play.four.two.low k e; omega))
    have hr6 : readAt w6 1 (.slice oB lb cB) lb (byteCells x.bytes) := H5.out.2.2.1.kept (fun k hk hob h0 => H6.out.2.1.block k hk (fun e => by have h1 := H.out.1.lo1 k hob h0; have h2 := H.out.1.play.four.low2 k e; omega))
    have hrx : readAt w6 1 (.slice o7 lb c7) lb (byteCells x.bytes) := by
      have h1 := hx6.read.take lb (by omega)
      rw [List.take_left' (by rw [byteCells_length, H.out.1.hlb, Nat.mul_one])] at h1
      exact h1
    have hc7 := hx6.capLe
    obtain ⟨g, off, rfl⟩ := hx6.addr (by omega)
    have k77 : w6.cell? ⟨g, off + lb, none⟩ = some (.int .u8 77) := hx6.read.cellAt (by rw [List.getElem?_append_right (by rw [byteCells_length, H.out.1.hlb]; exact Nat.le_refl _), byteCells_length, H.out.1.hlb, Nat.sub_self]; rfl)
    have hcx : (convert 79 9 (.slice (some ⟨g, off, none⟩) lb c7)).run Try.prog w6 = .ok (.string ⟨x.bytes.toArray⟩) w6 := run_string_rd _ 79 9 5 _ lb c7 x.bytes H.out.1.hlb Try.underlying79 Try.underlying5 Try.underlying9 hrx
    have hcb : (convert 79 9 (.slice oB lb cB)).run Try.prog w6 = .ok (.string ⟨x.bytes.toArray⟩) w6 := run_string_rd _ 79 9 5 _ lb cB x.bytes H.out.1.hlb Try.underlying79 Try.underlying5 Try.underlying9 hr6
    have hsl : ∀ W : World, (Instr.slice 79 (.slice (some ⟨g, off, none⟩) lb c7) none (some (.int .i64 ((lb : Int) + 1))) none).run Try.prog W = .ok (.slice (some ⟨g, off, none⟩) (lb + 1) c7) W := fun W => by
      have := run_take (some ⟨g, off, none⟩) lb c7 (lb + 1) (by omega) (add_zero_map _) W
      have hc : ((lb + 1 : Nat) : Int) = (lb : Int) + 1 := by omega
      rwa [hc] at this
    obtain ⟨ab, hab⟩ : ∃ a : ByteArray, a = ⟨x.bytes.toArray⟩ := ⟨_, rfl⟩
    rw [← hab] at hcx hcb
    have z4 := hS6.2
    have HX6 := Lib.hid hx6
    clear hab hrx hr6 hx6 hS hS5 hS6
    go_wp2_with fail
    refine HK2.out _ _ ?_
    refine wp_seq_k fun K3 hK3 => ?_
    have HK3 := Lib.hid hK3
    clear hK3
    conv => arg 2; whnf
    go_wp2_with fail
    refine HK3.out _ _ ?_
    exact frR_go17 17 (.slice (some ⟨g, off, none⟩) lb c7) (by kernel_rfl) (by kernel_rfl) (fun u h17 => play_loop2 (kd := kd) (er := er) (b14 := b14) (u := u) (PlayR.fin (H.out.1.play.below.trans (H.out.2.1.2.1.mono H.out.1.play.below.size)) H6.out.1 H5.out.2.1 H6.out.2.1 H.out.1.play.four.low1 H.out.1.play.four.low2 HR.out.2) HQ.out h17 HX6.out (fun i hi => by rw [List.getElem?_append_left (by rw [byteCells_length]; exact hi)]) H.out.1.hlb hlb (fun z hz => by
      have h1 := H.out.2.1.2.2 z hz
      have h3 := H.out.2.1.1.lt z hz
      have h4 := H5.out.2.1.size
      exact ⟨⟨fun e => by
          rcases H5.out.2.2.2 z e with e | e
          · have := H.out.1.play.four.one.low2 z e; omega
          · omega, fun e => by
          rcases H6.out.2.2 z e with e | e
          · have := H.out.1.play.four.two.low z e; omega
          · omega, fun e => by have := H.out.1.play.four.three.low2 z e; omega, fun e => by have := H.out.1.play.four.four.low z e; omega⟩, Nat.le_trans H.out.1.play.below.size h1⟩))
set_option maxRecDepth 100000 in
set_option maxHeartbeats 8000000 in
theorem play_arm2 {W w2 : World} {ob oB oF oP : Option Addr} {n cb q p qo po j b14 lb lf lp cB cF cP : Nat} {kd : Int} {x : StepT} {d o : Dk} {S1 S2 S3 S4 : Nat → Prop} {K : Act → World → Prop} {u : Nat → Value} (h : StepH W w2 oB oF oP q p qo po j b14 lb lf lp cB cF cP kd x d o S1 S2 S3 S4) (hQ : ArmQ W ob n cb j b14 K) : Code.wp Try.prog playA2 (Exit.then K (fun _ _ _ => False)) ⟨frR ob n cb q p qo po j (.pointer (some ⟨b14, 0, none⟩)) (.int .i64 0) (.int .i64 0) (.int .i64 kd) u, []⟩ w2 := by
  have H := Lib.hid h
  have HQ := Lib.hid hQ
  clear h hQ
  have c3 : w2.cell? ⟨b14, 3, none⟩ = some (.string x.name) := cell_of H.out.cells rfl
  have c4 : w2.cell? ⟨b14, 4, none⟩ = some (.slice oB lb cB) := cell_of H.out.cells rfl
  unfold frR
  obtain ⟨⟨er, dn⟩, hr⟩ : ∃ r, d.append x.name.data.toList x.bytes = r := ⟨_, rfl⟩
  have hfl := fates_append d x.name.data.toList x.bytes
  rw [hr] at hfl
  have HR := Lib.hid (And.intro hr (show dn.fates.length ≤ 100 + 100 * (j + 1) from by have h1 := H.out.play.few; have h2 : dn.fates.length ≤ d.fates.length := hfl; omega))
  have hlb : lb ≤ 3000 := H.out.small.1
  clear hr hfl
  rw [play_a2]
  refine wp_seq_k fun K1 hK1 => ?_
  have HK1 := Lib.hid hK1
  clear hK1
  conv => arg 2; whnf
  have c4a := cell_alloc c4
  have c4d : w2.drew.cell? ⟨b14, 4, none⟩ = some (.slice oB lb cB) := c4
  have c4e := cell_alloc c4d
  go_region_law (first
    | (refine step_u8_nil (w := w2) (by rfl) (.tmp 118) (by rfl) H.out.bytes H.out.hlb (by first | exact Below.refl _ _ | exact bdrew0 _ | exact (Below.refl _ _).alloc (Nat.le_refl _) _ | exact Below.drewR ((Below.refl _ _).alloc (Nat.le_refl _) _) | exact (bdrew0 _).alloc (Nat.le_refl _) _) (by omega) (by rfl) ?_; intro oa1 ca1 wf HR1; have y4 : wf.cell? ⟨b14, 4, none⟩ = some (.slice oB lb cB) := cell_of ((HR1.out.2.2.1.block b14 H.out.lt).trans H.out.cells) rfl; have y4a := cell_alloc y4; have y4d : wf.drew.cell? ⟨b14, 4, none⟩ = some (.slice oB lb cB) := y4; have y4e := cell_alloc y4d)
    | (refine step_u8_one (w := w2) (by rfl) (.tmp 119) (.tmp 120) (by rfl) (xs := byteCells x.bytes) (by first | exact HR1.out.1 | exact HR1.out.1.kept (fun k hk => Below.heap_alloc _ _ k (HR1.out.1.lt k hk))) (fun k hk => (HR1.out.2.2.2 k hk).1) (by first | exact (u8_row _ _).read | exact (u8_row _ _).read.kept (fun k hk _ _ => HR1.out.2.1.block k hk)) rfl (by first | exact HR1.out.2.2.1 | exact Below.drewR HR1.out.2.2.1 | exact HR1.out.2.2.1.alloc HR1.out.2.2.1.size _ | exact (Below.drewR HR1.out.2.2.1).alloc HR1.out.2.2.1.size _) (by omega) (by rfl) (by rfl) ?_; intro oa2 ca2 wg HR2; have z4 : wg.cell? ⟨b14, 4, none⟩ = some (.slice oB lb cB) := cell_of ((HR2.out.2.1.block b14 H.out.lt).trans H.out.cells) rfl; have hsl := fun W => run_take oa2 (lb + 1) ca2 lb (by have := HR2.out.1.capLe; omega) (add_zero_map oa2) W))
  all_goals
    have HX : Hid (NewX w2 wg lb x.bytes oa2 ca2) := Lib.hid HR2.out
    clear c3 c4 c4a c4d c4e y4 y4a y4d y4e z4 hsl HR1 HR2
    go_wp2_with fail
    refine HK1.out _ _ ?_
    exact frR_go17 17 (.slice oa2 lb ca2) (by kernel_rfl) (by kernel_rfl) (fun u h17 => play_rest2 (er := er) (dn := dn) (u := u) H.out HQ.out HR.out.1 HR.out.2 h17 (by first | exact HX.out | exact NewX.drew HX.out))
end Go.Proofs.Ytmkjejngnahpeaa
