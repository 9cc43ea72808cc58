/- Disk: Names, the walk. -/
import Derived.Test.YtmkjejngnahpeaaFg
namespace Go.Proofs.Ytmkjejngnahpeaa
open Go Go.Maps Go.RowKit
open Go.Proofs (encStr)

theorem encN_take_filter {L : List Fl} {m k : Nat} {xs : List Value} (h : Parted L m k xs) (hm : L.length ≤ m) : xs.take k = encN (L.filter (·.f.there)) ∧ k = (L.filter (·.f.there)).length := by
  have h1 := h.kept
  have h2 := h.k
  rw [List.take_of_length_le hm] at h1 h2
  exact ⟨h1, h2⟩
set_option maxRecDepth 100000 in
set_option maxHeartbeats 1000000 in
theorem deleteGone_b {w : World} {S : Nat → Prop} {q mb : Nat} {fv : Value} {L : List Fl} {d : Dk} (h : DiskIs w S q mb fv L d) {b : Nat} (hb : w.cell? ⟨b, 0, none⟩ = some (.pointer (some ⟨q, 0, none⟩)))
    {v : Value} {n : Nat} (hn : L.length = n) (hr : rowAt w 9 1 v n (encN L)) (hm : n ≤ 1000000000) (hv : ∀ k, v.ownBlock = some k → ¬ S k ∧ k ≠ b) :
    Calls Try.prog 125 #[v, .func (.func 126) #[] #[.pointer (some ⟨b, 0, none⟩)]] w fun e w' => ∃ v', e = .returned v' ∧ rowAt w' 9 1 v' (L.filter (·.f.there)).length (encN (L.filter (·.f.there))) ∧ v'.ownBlock = v.ownBlock ∧ w.grownBy w' v.ownBlock := by
  obtain ⟨oa, c, rfl, hnc⟩ := hr.shape
  have H := Lib.hid h
  have HR := Lib.hid hr
  have HB := Lib.hid hb
  have HV := Lib.hid hv
  have HN := Lib.hid hn
  have hbl : b < w.heap.size := World.block_lt_of_cell? w _ hb
  have hm0 := hr.map0.1
  clear h hr hb hv hn
  go_enter Try.func125, Try.ntmps125
  go_wp2_with fail
  refine (indexGone_b H.out HB.out HN.out HR.out hm).mono ?_
  rintro e w' ⟨i, rfl, hi, rfl⟩
  rcases hi with ⟨rfl, ha⟩ | ⟨k, hk, rfl, ha, hc⟩
  · have e : L.filter (·.f.there) = L := List.filter_eq_self.2 ha
    have HE := Lib.hid e
    clear ha e
    go_wp2_with fail
    go_ret
    exact ⟨_, rfl, by rw [HE.out, HN.out]; exact HR.out, rfl, World.grownBy.refl _ _⟩
  · have hkn : k < n := by rw [← HN.out]; exact hk
    obtain ⟨g, off, rfl⟩ := HR.out.addr (by omega)
    have hgS := HV.out g rfl
    have hgl : g < w'.heap.size := HR.out.lt g rfl
    have HP := Lib.hid (Parted.start hk ha hc)
    have hk1 : ¬ ((k : Int) = -1) := by omega
    have hk2 : (((k : Nat) : Int) == -1) = false := by simp
    clear ha hc hk
    go_wp2_with fail
    go_loopw [5, 6] (fun i j wr => ∃ (m k : Nat) (xs : List Value), i = .int .i64 k ∧ j = .int .i64 m ∧ m ≤ n ∧ k < m ∧ Hid (Parted L m k xs) ∧ Hid (rowAt wr 9 1 (.slice (some ⟨g, off, none⟩) n c) n xs) ∧ Hid (Only (fun x => x = g) w' wr))
      (fun i j wr => n - (intOf j).toNat)
    case atStart => exact ⟨k + 1, k, _, rfl, by simp, by omega, by omega, HP, HR, Lib.hid (Only.refl _ _)⟩
    case round =>
      obtain ⟨m, k', xs, rfl, rfl, hmn, hkm, HPA, HRO, HO⟩ := hrel
      by_cases hlt : m < n
      · have hmL : m < L.length := by rw [HN.out]; exact hlt
        obtain ⟨x, hx⟩ : ∃ x, L[m] = x := ⟨_, rfl⟩
        have hxm : x ∈ L := by rw [← hx]; exact List.getElem_mem _
        have hcx : wr.cell? ⟨g, off + m, none⟩ = some (encStr x.f.name) := HRO.out.cell1 (by rw [HPA.out.rest m (Nat.le_refl _)]; simp [encN, hmL, hx])
        have hkx : k' < xs.length := by rw [HPA.out.len]; omega
        have hck : wr.cell? ⟨g, off + k', none⟩ = some (xs[k']) := HRO.out.cell1 (by simp [hkx])
        have hfk : wr.frozen? ⟨g, off + k', none⟩ = false := HRO.out.free (by omega)
        obtain ⟨th, hth⟩ : ∃ th, x.f.there = th := ⟨_, rfl⟩
        have hdw := H.out.only HO.out (fun j hj he => hgS.1 (he ▸ hj))
        have hbw : wr.cell? ⟨b, 0, none⟩ = some (.pointer (some ⟨q, 0, none⟩)) := by rw [← HB.out]; exact cell_kept_at (HO.out.block b hbl (fun he => hgS.2 he.symm))
        have HC : Hid (Calls Try.prog 126 #[encStr x.f.name, .pointer (some ⟨b, 0, none⟩)] wr fun e w' => e = .returned (.bool (!th)) ∧ w' = wr) := Lib.hid (by rw [← hth]; exact name1_b hdw hxm hbw)
        have HXE : Hid (L[m].f.there = th ∧ encStr L[m].f.name = encStr x.f.name) := Lib.hid ⟨by rw [hx]; exact hth, by rw [hx]⟩
        obtain ⟨sv, hsv⟩ : ∃ sv : ByteArray, encStr x.f.name = .string sv := ⟨_, rfl⟩
        rw [hsv] at hcx HC HXE
        clear hx hxm hth hdw hbw hsv
        cases th
        · have HPN := Lib.hid (HPA.out.skip hmL HXE.out.1)
          go_wp2_with (go_at_call 126; refine HC.out.mono ?_; rintro e w' ⟨rfl, rfl⟩)
          exact ⟨⟨m + 1, k', xs, rfl, by simp, by omega, by omega, HPN, HRO, HO⟩, by simp [intOf]; omega⟩
        · have HPN := Lib.hid (HPA.out.keep hmL HXE.out.1)
          have HRN : Hid (rowAt (wr.setCell ⟨g, off + k', none⟩ (.string sv)) 9 1 (.slice (some ⟨g, off, none⟩) n c) n (xs.set k' (encStr L[m].f.name))) := Lib.hid (by rw [HXE.out.2]; exact HRO.out.set _)
          have HON : Hid (Only (fun x => x = g) w' (wr.setCell ⟨g, off + k', none⟩ (.string sv))) := Lib.hid (HO.out.trans (only_setCell (fun x => x = g) _ _ _ _ rfl) (fun _ _ h => h))
          go_wp2_with (go_at_call 126; refine HC.out.mono ?_; rintro e w' ⟨rfl, rfl⟩)
          exact ⟨⟨m + 1, k' + 1, _, by simp, by simp, by omega, by omega, HPN, HRN, HON⟩, by simp [intOf]; omega⟩
      · obtain rfl : m = n := by omega
        obtain ⟨w9, hclr, hr9, hg9⟩ := run_clear_at HRO.out (i := k') (by omega)
        obtain ⟨hx1, hx2⟩ := encN_take_filter HPA.out (by rw [HN.out]; exact Nat.le_refl _)
        have hdrop := fun W => drop_run g off m c k' (by omega) W
        rw [if_neg (show ¬ c = k' by omega)] at hclr
        simp only [if_neg (show ¬ c = k' by omega)] at hdrop
        have htake := fun W => take_run (oa := some ⟨g, off, none⟩) (n := m) (c := c) k' (by omega) rfl W
        have HX : Hid (rowAt w9 9 1 (.slice (some ⟨g, off, none⟩) k' c) k' (encN (L.filter (·.f.there))) ∧ k' = (L.filter (·.f.there)).length) := Lib.hid ⟨by rw [← hx1]; exact hr9, hx2⟩
        have HG9 : Hid (w'.grownBy w9 (some g)) := Lib.hid ((Only.grown HO.out (fun k _ hk => by rw [hk])).andThen hg9 (fun j hj => by cases hj; exact Or.inr rfl))
        clear hx1 hx2 hr9 hg9
        go_wp2_with fail
        go_ret
        exact ⟨_, rfl, by rw [← HX.out.2]; exact HX.out.1, rfl, HG9.out⟩
end Go.Proofs.Ytmkjejngnahpeaa
