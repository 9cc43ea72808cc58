/- Disk: Same. -/
import Derived.Test.YtmkjejngnahpeaaFd
namespace Go.Proofs.Ytmkjejngnahpeaa
open Go Go.Maps Go.RowKit
open Go.Proofs (encStr)

theorem below_grown {w w' : World} (h : w.grownBy w' none) : Below w.heap.size w w' := (Below.refl _ _).grown h (Nat.le_refl _) (fun k e => by cases e)
theorem all_found {L1 L2 : List Fl} {left : Lit → Bool} (h : ∀ x ∈ L1, left (.string x.f.name) = false → x.f ∈ L2.map (·.f)) (h0 : ∀ k, left k = false) (h1 : ((L1.map (·.f)).map (·.name)).Pairwise (· < ·)) (h2 : ((L2.map (·.f)).map (·.name)).Pairwise (· < ·)) (hl : L1.length = L2.length) : L1.map (·.f) = L2.map (·.f) :=
  sorted_sub_eq h1 h2 (fun f hf => by
    obtain ⟨x, hx, rfl⟩ := List.mem_map.1 hf
    exact h x hx (h0 _)) (by simpa using hl)
set_option maxRecDepth 100000 in
set_option maxHeartbeats 1000000 in
theorem equal_b {w : World} {S1 S2 : Nat → Prop} {q1 q2 m1 m2 : Nat} {fv1 fv2 : Value} {L1 L2 : List Fl} {d1 d2 : Dk} (h1 : DiskIs w S1 q1 m1 fv1 L1 d1) (h2 : DiskIs w S2 q2 m2 fv2 L2 d2) :
    Calls Try.prog 122 #[.map (some m1), .map (some m2), .func (.func 123) #[] #[]] w fun e w' => e = .returned (.bool (decide (d1.files = d2.files))) ∧ w.grownBy w' none := by
  obtain ⟨D1, hown1, hsz1, hd1⟩ := h1.look
  obtain ⟨D2, hown2, hsz2, hd2⟩ := h2.look
  have hl1 : ∀ W : World, W.heap[m1]? = w.heap[m1]? → (Builtin.len_ #[120] 3 #[.map (some m1)]).run Try.prog W = .ok (.int .i64 (L1.length : Int)) W := fun W hW => by
    have := (ownsMap_kept hown1 hW).len (t := 120) Try.underlying120 3
    rw [hsz1] at this
    exact this
  have hl2 : ∀ W : World, W.heap[m2]? = w.heap[m2]? → (Builtin.len_ #[120] 3 #[.map (some m2)]).run Try.prog W = .ok (.int .i64 (L2.length : Int)) W := fun W hW => by
    have := (ownsMap_kept hown2 hW).len (t := 120) Try.underlying120 3
    rw [hsz2] at this
    exact this
  have hlen1 := hl1 w rfl
  have hlen2 := hl2 w rfl
  have H1 := Lib.hid h1
  have H2 := Lib.hid h2
  have HDIC : Hid (Dic D1 (pairsF L1)) := Lib.hid hd1
  have hE1 : d1.files = L1.map (·.f) := h1.files.symm
  have hE2 : d2.files = L2.map (·.f) := h2.files.symm
  have HR : Hid (decide (d1.files = d2.files) = decide (L1.map (·.f) = L2.map (·.f))) := Lib.hid (by rw [hE1, hE2])
  have HS1 : Hid (((L1.map (·.f)).map (·.name)).Pairwise (· < ·)) := Lib.hid (by rw [← hE1]; exact h1.sorted)
  have HS2 : Hid (((L2.map (·.f)).map (·.name)).Pairwise (· < ·)) := Lib.hid (by rw [← hE2]; exact h2.sorted)
  have HNM : Hid (∀ x ∈ L1, nameOk x.f.name = true) := Lib.hid (fun x hx => h1.names x.f (by rw [hE1]; exact List.mem_map_of_mem hx))
  obtain ⟨n1, hn1⟩ : ∃ n, L1.length = n := ⟨_, rfl⟩
  obtain ⟨n2, hn2⟩ : ∃ n, L2.length = n := ⟨_, rfl⟩
  rw [hn1] at hlen1 hown1
  rw [hn2] at hlen2
  clear h1 h2 hd1 hd2 hown2 hl1 hl2 hsz1 hsz2 hE1 hE2
  by_cases hn : n1 = n2
  · subst hn
    have HLL : Hid (L1.length = L2.length) := Lib.hid (hn1.trans hn2.symm)
    clear hn1 hn2
    have hb0 : (((n1 : Nat) : Int) != (n1 : Int)) = false := by simp
    go_enter Try.func122, Try.ntmps122
    go_wp2_with (at_range; refine wpList_range_own _ rfl _ 120 rfl 9 176 (string_keyed Try.underlying9) Try.underlying120 ptrElem m1 _ _ rfl hown1 ?_; intro w0 hrg0 hg0 hs0)
    go_frame
    go_loopw [18] (fun _ wr => ∃ (left : Lit → Bool) (cnt : Nat), wr.ranges Try.prog 9 ptrElem m1 w.heap.size n1 D1 left cnt ∧ Hid (w.grownBy wr none) ∧ Hid (∀ x ∈ L1, left (.string x.f.name) = false → x.f ∈ L2.map (·.f)))
      (fun _ wr => wr.rangeLeft m1 w.heap.size)
    case atStart =>
      refine ⟨_, _, hrg0, Lib.hid hg0, Lib.hid fun x hx hf => ?_⟩
      have : has D1 (.string x.f.name) = true := (HDIC.out.has x.f.name).2 ⟨_, List.mem_map_of_mem (f := fun x : Fl => (x.f.name, x.blk)) hx, rfl⟩
      rw [this] at hf
      cases hf
    case round =>
      obtain ⟨left, cnt, hrg, HG, HF⟩ := hrel
      go_wp2_with (at_next; refine wpList_next_dic _ rfl _ rfl HDIC.out m1 w.heap.size _ left cnt rfl hrg ?_ ?_)
      · intro hl0
        have HX : Hid (L1.map (·.f) = L2.map (·.f)) := Lib.hid (all_found HF.out hl0 HS1.out HS2.out HLL.out)
        go_wp2_with fail
        go_ret
        exact ⟨by rw [HR.out, decide_eq_true HX.out]; rfl, HG.out⟩
      · intro s b w5 cnt5 hmem hls hrg5 hlt hg5 hs5 hen HKEY
        obtain ⟨x, hx, rfl, rfl⟩ := mem_pairsF hmem
        have hg5' : w.grownBy w5 none := HG.out.andThen hg5 (fun j hj => by cases hj; exact Or.inl (Nat.le_refl _))
        have HG5 := Lib.hid hg5'
        have hb5 := below_grown hg5'
        have h15 := H1.out.below hb5
        have h25 := H2.out.below hb5
        obtain ⟨nm, hnm⟩ : ∃ nm : ByteArray, nm = ⟨x.f.name.toArray⟩ := ⟨_, rfl⟩
        have hnmd : nm.data.toList = x.f.name := by rw [hnm]
        have hsz : nm.size ≤ maxLen := by
          have h3 := HNM.out x hx
          simp only [nameOk, Bool.and_eq_true, decide_eq_true_eq] at h3
          have h4 : nm.size = x.f.name.length := by rw [← hnmd]; exact Array.length_toList.symm
          unfold maxLen
          omega
        have henc : encStr x.f.name = .string nm := by rw [hnm]
        rw [henc] at hen ⊢
        cases ha : d2.at x.f.name with
        | none =>
          have hlk := h25.lookup_none hsz (by rw [hnmd]; exact h25.at_none ha)
          have HX : Hid (¬ L1.map (·.f) = L2.map (·.f)) := Lib.hid (fun he => by
            have h3 : x.f ∈ L2.map (·.f) := by rw [← he]; exact List.mem_map_of_mem hx
            obtain ⟨y, hy, hye⟩ := List.mem_map.1 h3
            exact h25.at_none ha y hy (by rw [hye]))
          clear h15 h25 ha
          go_wp2_with fail
          go_ret
          exact ⟨by rw [HR.out, decide_eq_false HX.out]; rfl, HG5.out⟩
        | some f =>
          obtain ⟨A, y, B, hL, rfl, hyn⟩ := h25.at_some ha
          have hyL : y ∈ L2 := by rw [hL]; simp
          have hlk := h25.lookup_some (x := y) hyL hsz (by rw [hnmd]; exact hyn)
          have HC : Hid (Calls Try.prog 123 #[.pointer (some ⟨x.blk, 0, none⟩), .pointer (some ⟨y.blk, 0, none⟩)] w5 fun e w' => e = .returned (.bool (sameF x.f y.f)) ∧ w5.grownBy w' none) := Lib.hid (same1_b (h15.each x hx) (h25.each y hyL))
          obtain ⟨sb, hsb⟩ : ∃ sb, sameF x.f y.f = sb := ⟨_, rfl⟩
          rw [hsb] at HC
          have HND := Lib.hid h25.nodup
          clear h15 h25 ha hL
          cases sb with
          | false =>
            have HX : Hid (¬ L1.map (·.f) = L2.map (·.f)) := Lib.hid (fun he => by
              have h3 : x.f ∈ L2.map (·.f) := by rw [← he]; exact List.mem_map_of_mem hx
              obtain ⟨z, hz, hze⟩ := List.mem_map.1 h3
              have h4 := eq_of_name HND.out hz hyL (by rw [hze, hyn])
              rw [← h4, hze, sameF_self] at hsb
              cases hsb)
            go_wp2_with (go_at_call 123; refine HC.out.mono ?_; rintro e w6 ⟨rfl, hg6⟩)
            go_ret
            exact ⟨by rw [HR.out, decide_eq_false HX.out]; rfl, HG5.out.andThen hg6 (fun j hj => by cases hj)⟩
          | true =>
            have hxy : x.f = y.f := sameF_eq hsb hyn.symm
            have HF6 : Hid (∀ z ∈ L1, (left (.string z.f.name) && !(Lit.string z.f.name).sameKey (.string x.f.name)) = false → z.f ∈ L2.map (·.f)) := Lib.hid (fun z hz hf => by
              rw [sameKey_str] at hf
              by_cases he : z.f.name = x.f.name
              · have hzx : z = x := eq_of_name H1.out.nodup hz hx he
                rw [hzx, hxy]
                exact List.mem_map_of_mem hyL
              · rw [decide_eq_false he] at hf
                exact HF.out z hz (by simpa using hf))
            go_wp2_with (go_at_call 123; refine HC.out.mono ?_; rintro e w6 ⟨rfl, hg6⟩)
            have hrg6 := hrg5.kept hg6 (by simp) (by simp)
            have HG6 := Lib.hid (HG5.out.andThen hg6 (fun j hj => by cases hj))
            go_roundw
            case rel => exact ⟨_, _, hrg6, HG6, HF6⟩
            case measure => rw [hrg6.left_eq, hrg.left_eq]; exact hlt
  · have hb0 : (((n1 : Nat) : Int) != (n2 : Int)) = true := by simp; omega
    have HX : Hid (¬ L1.map (·.f) = L2.map (·.f)) := Lib.hid (fun he => hn (by
      have := congrArg List.length he
      simp only [List.length_map] at this
      omega))
    clear hn hn1 hn2
    go_enter Try.func122, Try.ntmps122
    go_wp2_with fail
    go_ret
    exact ⟨by rw [HR.out, decide_eq_false HX.out]; rfl, World.grownBy.refl _ _⟩
set_option maxRecDepth 100000 in
set_option maxHeartbeats 1000000 in
theorem same_b {w : World} {S1 S2 : Nat → Prop} {q1 q2 : Nat} {d1 d2 : Dk} (h1 : DiskAt w S1 q1 d1) (h2 : DiskAt w S2 q2 d2) :
    Calls Try.prog 51 #[.pointer (some ⟨q1, 0, none⟩), .pointer (some ⟨q2, 0, none⟩)] w fun e w' => e = .returned (.bool (decide (d1.files = d2.files))) ∧ Below w.heap.size w w' := by
  obtain ⟨m1, fv1, L1, h1⟩ := h1
  obtain ⟨m2, fv2, L2, h2⟩ := h2
  have c1 : w.cell? ⟨q1, 0, none⟩ = some (.map (some m1)) := cell_of h1.head rfl
  have c2 : w.cell? ⟨q2, 0, none⟩ = some (.map (some m2)) := cell_of h2.head rfl
  have H1 := Lib.hid h1
  have H2 := Lib.hid h2
  clear h1 h2
  obtain ⟨b, hb⟩ : ∃ b, decide (d1.files = d2.files) = b := ⟨_, rfl⟩
  have HC : Hid (∀ W : World, (W = w ∨ W = w.drew) → Calls Try.prog 122 #[.map (some m1), .map (some m2), .func (.func 123) #[] #[]] W fun e w' => e = .returned (.bool b) ∧ Below w.heap.size w w') := Lib.hid (fun W hW => by
    have hbl : Below w.heap.size w W := by rcases hW with rfl | rfl <;> exact ⟨rfl, rfl, rfl, Nat.le_refl _, fun _ _ => rfl⟩
    refine (equal_b (H1.out.below hbl) (H2.out.below hbl)).mono ?_
    rintro e w' ⟨rfl, hg⟩
    rw [hb]
    exact ⟨rfl, hbl.trans ((below_grown hg).mono hbl.size)⟩)
  rw [hb]
  clear hb
  go_enter Try.func51, Try.ntmps51
  go_wp2_with fail
  refine (none_b H1.out).mono ?_
  rintro e w' ⟨rfl, rfl⟩
  go_wp2_with fail
  refine (none_b H2.out).mono ?_
  rintro e w' ⟨rfl, rfl⟩
  go_wp2_with fail
  go_upto_region 3 with fail
  go_region_law (first | (go_simp; go_at_call 122; refine (HC.out _ (by first | exact .inl rfl | exact .inr rfl)).mono ?_; rintro e w5 ⟨rfl, hb5⟩; have HB5 := Lib.hid hb5; clear hb5))
  all_goals
    go_wp2_with fail
    go_ret
    exact ⟨rfl, HB5.out⟩
end Go.Proofs.Ytmkjejngnahpeaa
