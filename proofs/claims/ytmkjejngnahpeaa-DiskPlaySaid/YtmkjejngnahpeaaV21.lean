/- The texts Zx in one. -/
import Derived.Test.YtmkjejngnahpeaaV20
/- law07: DiskPlay, the walk. -/
namespace Go.Proofs.Ytmkjejngnahpeaa
open Go Go.Maps Go.RowKit

theorem frR_start {ob : Option Addr} {n cb q p qo po j : Nat} {v14 v15 v16 v104 : Value} {A B : Prop} {l : Array Value} (h : l = frR ob n cb q p qo po j v14 v15 v16 v104 (fun k => l.toList.getD k undef)) (hA : A) (hB : B) : ∃ u, (⟨l, []⟩ : Act) = ⟨frR ob n cb q p qo po j v14 v15 v16 v104 u, []⟩ ∧ A ∧ B := ⟨_, congrArg (fun l => (⟨l, []⟩ : Act)) h, hA, hB⟩
set_option maxRecDepth 100000 in
set_option maxHeartbeats 16000000 in
theorem diskPlay_walk {W : World} {v1 v2 : Value} {fs : List (Int × Int)} {l : List StepT} (hf : readAt W 2 v1 fs.length (fateCells fs)) (hs : ScriptAt W v2 l) (hpl : ∀ x ∈ l, -9223372036854775808 ≤ x.pl ∧ x.pl ≤ 9223372036854775807) :
    Calls Try.prog 9 #[v1, v2] W fun e W' => e = .returned (.bool true) ∧ Below W.heap.size W W' := by
  obtain ⟨oa, c, rfl⟩ := hf.shape
  obtain ⟨ob, cb, rfl⟩ := hs.row.shape
  obtain ⟨m, hm⟩ : ∃ m, fs.length = m := ⟨_, rfl⟩
  obtain ⟨n, hn⟩ : ∃ n, l.length = n := ⟨_, rfl⟩
  rw [hm] at hf ⊢
  rw [hn] at hs ⊢
  have HF := Lib.hid hf
  have HS := Lib.hid hs
  have HM := Lib.hid hm
  have HN := Lib.hid hn
  have HPL := Lib.hid hpl
  have HVB : Hid (Calls Try.prog 36 #[.slice ob n cb] W fun e w' => e = .returned (.bool (vastT l)) ∧ w' = W) := Lib.hid (vast_b hs)
  clear hf hs hm hn hpl
  by_cases hm1 : 100 < m
  · have hd : decide ((100 : Int) < (m : Int)) = true := by simp; omega
    go_enter Try.func9, Try.ntmps9
    go_wp2_with (go_at_call 38; refine (known7_b _).mono ?_; rintro e w' ⟨rfl, hb⟩; have HB := Lib.hid hb; clear hb)
    go_ret
    exact ⟨rfl, HB.out⟩
  · have hd : decide ((100 : Int) < (m : Int)) = false := by simp; omega
    obtain ⟨vt, hvt⟩ : ∃ b, vastT l = b := ⟨_, rfl⟩
    rw [hvt] at HVB
    have HVT := Lib.hid hvt
    clear hvt
    cases vt with
    | true =>
      go_enter Try.func9, Try.ntmps9
      go_wp2_with (first | (go_at_call 36; refine HVB.out.mono ?_; rintro e w' ⟨rfl, hw'⟩; obtain rfl := hw'.symm) | (go_at_call 38; refine (known7_b _).mono ?_; rintro e w' ⟨rfl, hb⟩; have HB := Lib.hid hb; clear hb))
      go_ret
      exact ⟨rfl, HB.out⟩
    | false =>
      have hone2 : ∀ v ∈ [(.int .i64 0 : Value), .int .i64 4242], v.oneCell' = true := fun v hv => by
        simp only [List.mem_cons, List.not_mem_nil, or_false] at hv
        rcases hv with rfl | rfl <;> rfl
      have HONE := Lib.hid hone2
      clear hone2
      go_enter Try.func9, Try.ntmps9
      go_upto_region 3 with (go_at_call 36; refine HVB.out.mono ?_; rintro e w' ⟨rfl, hw'⟩; obtain rfl := hw'.symm)
      go_wp2_with (at_builtin; first
        | (refine wpList_append_at _ rfl (.const (.slice none 0 0)) (.tmp 45) 65 65 rfl 99 (.agg #[.int .i64 0, .int .i64 0]) 2 16 Try.underlying65 info_fate rfl _ 0 [] rfl ⟨rfl, .inl ⟨rfl, rfl⟩⟩ _ m _ rfl (Src.of_read Try.underlying65 HF.out (fateCells_one fs)) (by unfold maxLen; omega) (by omega) ?_; intro v' w3 hr hg hown _; rw [Nat.zero_add] at hr; obtain ⟨o3, c3, rfl, _⟩ := hr.shape; have hg0 : W.grownBy w3 none := hg; have hown0 : (Value.slice o3 m c3).ownBlock = none ∨ (Value.slice o3 m c3).ownBlock = some W.heap.size := hown; have HR3 := Lib.hid (And.intro hr (And.intro hg0 hown0)); clear hr hg hg0 hown hown0)
        | (refine wpList_append_at _ rfl (.tmp 46) (.tmp 48) 65 65 rfl 99 (.agg #[.int .i64 0, .int .i64 0]) 2 16 Try.underlying65 info_fate rfl _ m _ rfl (HR3.out.1.kept (fun k hk => Below.heap_alloc _ _ k (HR3.out.1.lt k hk))) _ 1 _ rfl (Src.of_row Try.underlying65 (fate_row w3 (.int .i64 0) (.int .i64 4242)) HONE.out) (by unfold maxLen; omega) (by omega) ?_; intro v' w4 hr hg hown _; obtain ⟨o4, c4, rfl, hc4⟩ := hr.shape; have HR4 := Lib.hid (And.intro hr (And.intro hg hown)); have hsl := fun W => run_takeF o4 (m + 1) c4 m (by omega) (add_zero_map o4) W; clear hr hg hown))
      have hb3 : Below W.heap.size W w3 := (Below.refl _ _).grown HR3.out.2.1 (Nat.le_refl _) (fun k e => by cases e)
      have how3 : ∀ k, (Value.slice o3 m c3).ownBlock = some k → W.heap.size ≤ k := fun k hk => by
        rcases HR3.out.2.2 with e | e
        · rw [hk] at e
          cases e
        · rw [hk] at e
          simp only [Option.some.injEq] at e
          omega
      have hb4 : Below W.heap.size W w4 := (hb3.alloc hb3.size _).grown HR4.out.2.1 (by have := hb3.size; simp; omega) (fun k e => how3 k e)
      have how4 : ∀ k, (Value.slice o4 (m + 1) c4).ownBlock = some k → W.heap.size ≤ k ∧ k < w4.heap.size := fun k hk => ⟨by
        rcases HR4.out.2.2 with e | e
        · rw [hk] at e
          exact how3 k e.symm
        · rw [hk] at e
          simp only [Option.some.injEq, World.size_alloc] at e
          have := hb3.size
          omega, HR4.out.1.lt k hk⟩
      have hrd4 : readAt w4 2 (.slice o4 m c4) m (fateCells fs) := by
        have h1 := HR4.out.1.read.take m (by omega)
        rw [List.nil_append, List.take_left' (by rw [fateCells_length, HM.out])] at h1
        exact h1
      have H4 := Lib.hid (And.intro HR4.out.1 (And.intro hb4 (And.intro how4 hrd4)))
      clear hb3 how3 hb4 how4 hrd4 HR3 HR4 hsl HONE HVB
      obtain ⟨rg, hrg⟩ : ∃ b, fs.any badFate = b := ⟨_, rfl⟩
      have HRG := Lib.hid hrg
      have HRB : Hid (∀ V : World, Below w4.heap.size w4 V → Calls Try.prog 37 #[.slice oa m c] V fun e w' => e = .returned (.bool (!rg)) ∧ w' = V) := Lib.hid (fun V hb => by
        have := refRight_b (w := V) (v := .slice oa m c) (l := fs) (by rw [HM.out]; exact (HF.out.kept (fun k hk _ _ => H4.out.2.1.block k hk)).kept (fun k hk _ _ => hb.block k hk)) (by rw [HM.out]; omega)
        rwa [HRG.out] at this)
      clear hrg
      cases rg with
      | true =>
        go_wp2_with fail
        refine (newBad_b HM.out H4.out.2.2.2 (by omega) HRG.out).mono ?_
        rintro e w5 ⟨rfl, hb5⟩
        have HB5 := Lib.hid hb5
        clear hb5
        go_wp2_with (first | (go_at_call 37; refine (HRB.out _ HB5.out).mono ?_; rintro e w' ⟨rfl, hw'⟩; obtain rfl := hw'.symm) | (go_at_call 38; refine (known7_b _).mono ?_; rintro e w' ⟨rfl, hb⟩; have HB := Lib.hid hb; clear hb))
        go_ret
        exact ⟨rfl, (H4.out.2.1.trans (HB5.out.mono H4.out.2.1.size)).trans (HB.out.mono (Nat.le_trans H4.out.2.1.size HB5.out.size))⟩
      | false =>
        go_wp2_with fail
        refine (newF_b HM.out H4.out.2.2.2 (by omega) HRG.out).mono ?_
        rintro e w5 ⟨q0, rfl, hd5, hb5⟩
        have H5 := Lib.hid (And.intro hd5 hb5)
        clear hd5 hb5
        go_wp2_with (first | (go_at_call 37; refine (HRB.out _ H5.out.2).mono ?_; rintro e w' ⟨rfl, hw'⟩; obtain rfl := hw'.symm))
        refine (refNew_b HM.out ((HF.out.kept (fun k hk _ _ => H4.out.2.1.block k hk)).kept (fun k hk _ _ => H5.out.2.block k hk)) (by omega)).mono ?_
        rintro e w6 ⟨p0, rfl, hd6, hb6⟩
        have H6 := Lib.hid (And.intro hd6 hb6)
        clear hd6 hb6
        go_wp2_with fail
        refine (copy_b (H5.out.1.below H6.out.2) (by show fs.length ≤ _; rw [HM.out]; omega)).mono ?_
        rintro e w7 ⟨qo0, rfl, hd7, hb7⟩
        have H7 := Lib.hid (And.intro hd7 hb7)
        clear hd7 hb7
        go_wp2_with fail
        refine (refCopy_b (H6.out.1.below H7.out.2) (by show fs.length ≤ _; rw [HM.out]; omega)).mono ?_
        rintro e w8 ⟨po0, rfl, hd8, hb8⟩
        have h45 := H5.out.2.size
        have h56 := H6.out.2.size
        have h67 := H7.out.2.size
        have hW4 := H4.out.2.1.size
        have hb48 : Below w4.heap.size w4 w8 := H5.out.2.trans ((H6.out.2.trans ((H7.out.2.trans (hb8.mono h67)).mono h56)).mono h45)
        have HF8 : Hid (Four W.heap.size w8 (fun k => w4.heap.size ≤ k ∧ k < w5.heap.size) (Can w5.heap.size w6) (fun k => w6.heap.size ≤ k ∧ k < w7.heap.size) (Can w7.heap.size w8) q0 p0 qo0 po0 ⟨[], fs, 0⟩ ⟨[], fs, 0⟩ ⟨[], fs, 0⟩ ⟨[], fs, 0⟩ ∧ Below w4.heap.size w4 w8) := Lib.hid ⟨{
          one := ((H5.out.1.below H6.out.2).below H7.out.2).below hb8
          two := (H6.out.1.below H7.out.2).below hb8
          three := H7.out.1.below hb8
          four := hd8
          low1 := fun k hk => by have := hk.1; omega
          low2 := fun k hk => by have := hk.1; omega
          low3 := fun k hk => by have := hk.1; omega
          low4 := fun k hk => by have := hk.1; omega
          a12 := fun k h1 h2 => by have := h1.2; have := h2.1; omega
          a13 := fun k h1 h2 => by have := h1.2; have := h2.1; omega
          a14 := fun k h1 h2 => by have := h1.2; have := h2.1; omega
          a23 := fun k h1 h2 => by have := h1.2; have := h2.1; omega
          a24 := fun k h1 h2 => by have := h1.2; have := h2.1; omega
          a34 := fun k h1 h2 => by have := h1.2; have := h2.1; omega }, hb48⟩
        have HSZ := Lib.hid (And.intro h45 (And.intro h56 (And.intro h67 hW4)))
        obtain ⟨hl300, hlx⟩ := not_vast7 HVT.out
        have HLX := Lib.hid hlx
        rw [HN.out] at hl300
        clear hd8 hb8 h45 h56 h67 hW4 hb48 hlx hd
        go_wp2_with fail
        go_loopw [12] (fun i wr => ∃ k : Nat, k ≤ m ∧ i = .int .i64 k ∧ Hid (Only (fun z => (Value.slice o4 (m + 1) c4).ownBlock = some z) w8 wr ∧ ∃ xs, rowAt wr 99 2 (.slice o4 (m + 1) c4) (m + 1) xs)) (fun i _ => m - (intOf i).toNat)
        case atStart => exact ⟨0, Nat.zero_le _, rfl, Lib.hid ⟨Only.refl _ _, _, H4.out.1.kept (fun k hk => HF8.out.2.block k (H4.out.2.2.1 k hk).2)⟩⟩
        case round =>
          obtain ⟨k, hk, rfl, HB⟩ := hrel
          by_cases hlt : k < m
          · obtain ⟨ho, xs, hrow⟩ := HB.out
            obtain ⟨g, off, rfl⟩ := hrow.addr (by omega)
            have hxl := hrow.1
            have k0 : wr.cell? ⟨g, off + k * 2, none⟩ = some (xs[k * 2]'(by omega)) := hrow.read.cellAt (List.getElem?_eq_getElem _)
            have k1 : wr.cell? ⟨g, off + k * 2 + 1, none⟩ = some (xs[k * 2 + 1]'(by omega)) := hrow.read.cellAt (i := k * 2 + 1) (List.getElem?_eq_getElem _)
            have z0 : wr.frozen? ⟨g, off + k * 2, none⟩ = false := hrow.freeAt (j := k * 2) (by omega)
            have z1 : wr.frozen? ⟨g, off + k * 2 + 1, none⟩ = false := hrow.freeAt (j := k * 2 + 1) (by omega)
            have HO := Lib.hid (And.intro ho hrow)
            clear ho hrow HB
            go_wp2_with fail
            refine ⟨⟨k + 1, by omega, by simp, Lib.hid ⟨(HO.out.1.trans (only_setCell (fun z => (Value.slice (some ⟨g, off, none⟩) (m + 1) c4).ownBlock = some z) _ g _ _ rfl) (fun _ _ e => e)).trans (only_setCell (fun z => (Value.slice (some ⟨g, off, none⟩) (m + 1) c4).ownBlock = some z) _ g _ _ rfl) (fun _ _ e => e), _, (HO.out.2.setAt (j := k * 2) (by omega) _).setAt (j := k * 2 + 1) (by omega) _⟩⟩, by simp [intOf]; omega⟩
          · obtain rfl : k = m := by omega
            have HP0 : Hid (PlayR W wr (fun k => w4.heap.size ≤ k ∧ k < w5.heap.size) (Can w5.heap.size w6) (fun k => w6.heap.size ≤ k ∧ k < w7.heap.size) (Can w7.heap.size w8) q0 p0 qo0 po0 ⟨[], fs, 0⟩ ⟨[], fs, 0⟩ 0) := Lib.hid ⟨HF8.out.1.only HB.out.1 (fun z hz => by
                have h1 := (H4.out.2.2.1 z hz).2
                have h2 := HSZ.out
                exact ⟨fun e => by have := e.1; omega, fun e => by have := e.1; omega, fun e => by have := e.1; omega, fun e => by have := e.1; omega⟩), (H4.out.2.1.trans (HF8.out.2.mono H4.out.2.1.size)).trans (HB.out.1.below (fun i hi e => by have := (H4.out.2.2.1 i e).1; omega) (Nat.le_trans H4.out.2.1.size HF8.out.2.size)), by show fs.length ≤ _; rw [HM.out]; omega⟩
            clear HB HF8 H7 H6 H5 HSZ H4 HRB
            go_wp2_with fail
            refine wp_loop_ghost (c := playBody) (fun g a wr => ∃ (j q p qo po : Nat) (d o : Dk) (S1 S2 S3 S4 : Nat → Prop) (v14 v15 v16 v104 : Value) (u : Nat → Value), a = ⟨frR ob n cb q p qo po j v14 v15 v16 v104 u, []⟩ ∧ g + j = n ∧ Hid (PlayR W wr S1 S2 S3 S4 q p qo po d o j)) n ?_ ?_
            · exact ⟨0, q0, p0, qo0, po0, _, _, _, _, _, _, undef, undef, undef, undef, frR_start (by kernel_rfl) (by omega) HP0⟩
            · rintro g a wr ⟨j, q, p, qo, po, d, o, S1, S2, S3, S4, v14, v15, v16, v104, u, rfl, hgj, HI⟩
              clear HP0
              by_cases hlt : j < n
              · exact play_round HN.out HS.out HPL.out HLX.out hl300 HI.out hlt (fun q p qo po d o S1 S2 S3 S4 v14 v15 v16 v104 u wy hp => ⟨g - 1, by omega, j + 1, q, p, qo, po, d, o, S1, S2, S3, S4, v14, v15, v16, v104, u, rfl, by omega, Lib.hid hp⟩)
              · obtain rfl : j = n := by omega
                unfold frR
                conv => arg 2; whnf
                go_wp2_with (first | (go_at_call 67; refine (tells_b HI.out.four.three HI.out.four.four).mono ?_; rintro e w9 ⟨rfl, hb9⟩; have HP9 := Lib.hid (HI.out.later hb9); clear hb9) | (go_at_call 51; refine (same_b HP9.out.four.one HP9.out.four.one).mono ?_; rintro e w10 ⟨he, hb10⟩; rw [decide_eq_true rfl] at he; subst he; have HP10 := Lib.hid (HP9.out.later hb10); clear hb10) | (go_at_call 38; refine (known7_b _).mono ?_; rintro e w' ⟨rfl, hb⟩; have HB := Lib.hid hb; clear hb))
                go_ret
                exact ⟨rfl, HP10.out.below.trans (HB.out.mono HP10.out.below.size)⟩
end Go.Proofs.Ytmkjejngnahpeaa
