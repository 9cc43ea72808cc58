/- The texts Fe, Ff, Fg in one. -/
import Derived.Test.YtmkjejngnahpeaaD3
/- Disk: Same. -/
namespace Go.Proofs.Ytmkjejngnahpeaa
open Go Go.Maps Go.RowKit
open Go.Proofs (encStr)

theorem below_grown {w w' : World} (h : w.grownBy w' none) : Below w.heap.size w w' := (Below.refl _ _).grown h (Nat.le_refl _) (fun k e => by cases e)
theorem all_found {L1 L2 : List Fl} {left : Lit → Bool} (h : ∀ x ∈ L1, left (.string x.f.name) = false → x.f ∈ L2.map (·.f)) (h0 : ∀ k, left k = false) (h1 : ((L1.map (·.f)).map (·.name)).Pairwise (· < ·)) (h2 : ((L2.map (·.f)).map (·.name)).Pairwise (· < ·)) (hl : L1.length = L2.length) : L1.map (·.f) = L2.map (·.f) :=
  sorted_sub_eq h1 h2 (fun f hf => by
    obtain ⟨x, hx, rfl⟩ := List.mem_map.1 hf
    exact h x hx (h0 _)) (by simpa using hl)
set_option maxRecDepth 100000 in
set_option maxHeartbeats 1000000 in
theorem equal_b {w : World} {S1 S2 : Nat → Prop} {q1 q2 m1 m2 : Nat} {fv1 fv2 : Value} {L1 L2 : List Fl} {d1 d2 : Dk} (h1 : DiskIs w S1 q1 m1 fv1 L1 d1) (h2 : DiskIs w S2 q2 m2 fv2 L2 d2) :
    Calls Try.prog 122 #[.map (some m1), .map (some m2), .func (.func 123) #[] #[]] w fun e w' => e = .returned (.bool (decide (d1.files = d2.files))) ∧ w.grownBy w' none := by
  obtain ⟨D1, hown1, hsz1, hd1⟩ := h1.look
  obtain ⟨D2, hown2, hsz2, hd2⟩ := h2.look
  have hl1 : ∀ W : World, W.heap[m1]? = w.heap[m1]? → (Builtin.len_ #[120] 3 #[.map (some m1)]).run Try.prog W = .ok (.int .i64 (L1.length : Int)) W := fun W hW => by
    have := (ownsMap_kept hown1 hW).len (t := 120) Try.underlying120 3
    rw [hsz1] at this
    exact this
  have hl2 : ∀ W : World, W.heap[m2]? = w.heap[m2]? → (Builtin.len_ #[120] 3 #[.map (some m2)]).run Try.prog W = .ok (.int .i64 (L2.length : Int)) W := fun W hW => by
    have := (ownsMap_kept hown2 hW).len (t := 120) Try.underlying120 3
    rw [hsz2] at this
    exact this
  have hlen1 := hl1 w rfl
  have hlen2 := hl2 w rfl
  have H1 := Lib.hid h1
  have H2 := Lib.hid h2
  have HDIC : Hid (Dic D1 (pairsF L1)) := Lib.hid hd1
  have hE1 : d1.files = L1.map (·.f) := h1.files.symm
  have hE2 : d2.files = L2.map (·.f) := h2.files.symm
  have HR : Hid (decide (d1.files = d2.files) = decide (L1.map (·.f) = L2.map (·.f))) := Lib.hid (by rw [hE1, hE2])
  have HS1 : Hid (((L1.map (·.f)).map (·.name)).Pairwise (· < ·)) := Lib.hid (by rw [← hE1]; exact h1.sorted)
  have HS2 : Hid (((L2.map (·.f)).map (·.name)).Pairwise (· < ·)) := Lib.hid (by rw [← hE2]; exact h2.sorted)
  have HNM : Hid (∀ x ∈ L1, nameOk x.f.name = true) := Lib.hid (fun x hx => h1.names x.f (by rw [hE1]; exact List.mem_map_of_mem hx))
  obtain ⟨n1, hn1⟩ : ∃ n, L1.length = n := ⟨_, rfl⟩
  obtain ⟨n2, hn2⟩ : ∃ n, L2.length = n := ⟨_, rfl⟩
  rw [hn1] at hlen1 hown1
  rw [hn2] at hlen2
  clear h1 h2 hd1 hd2 hown2 hl1 hl2 hsz1 hsz2 hE1 hE2
  by_cases hn : n1 = n2
  · subst hn
    have HLL : Hid (L1.length = L2.length) := Lib.hid (hn1.trans hn2.symm)
    clear hn1 hn2
    have hb0 : (((n1 : Nat) : Int) != (n1 : Int)) = false := by simp
    go_enter Try.func122, Try.ntmps122
    go_wp2_with (at_range; refine wpList_range_own _ rfl _ 120 rfl 9 176 (string_keyed Try.underlying9) Try.underlying120 ptrElem m1 _ _ rfl hown1 ?_; intro w0 hrg0 hg0 hs0)
    go_frame
    go_loopw [18] (fun _ wr => ∃ (left : Lit → Bool) (cnt : Nat), wr.ranges Try.prog 9 ptrElem m1 w.heap.size n1 D1 left cnt ∧ Hid (w.grownBy wr none) ∧ Hid (∀ x ∈ L1, left (.string x.f.name) = false → x.f ∈ L2.map (·.f)))
      (fun _ wr => wr.rangeLeft m1 w.heap.size)
    case atStart =>
      refine ⟨_, _, hrg0, Lib.hid hg0, Lib.hid fun x hx hf => ?_⟩
      have : has D1 (.string x.f.name) = true := (HDIC.out.has x.f.name).2 ⟨_, List.mem_map_of_mem (f := fun x : Fl => (x.f.name, x.blk)) hx, rfl⟩
      rw [this] at hf
      cases hf
    case round =>
      obtain ⟨left, cnt, hrg, HG, HF⟩ := hrel
      go_wp2_with (at_next; refine wpList_next_dic _ rfl _ rfl HDIC.out m1 w.heap.size _ left cnt rfl hrg ?_ ?_)
      · intro hl0
        have HX : Hid (L1.map (·.f) = L2.map (·.f)) := Lib.hid (all_found HF.out hl0 HS1.out HS2.out HLL.out)
        go_wp2_with fail
        go_ret
        exact ⟨by rw [HR.out, decide_eq_true HX.out]; rfl, HG.out⟩
      · intro s b w5 cnt5 hmem hls hrg5 hlt hg5 hs5 hen HKEY
        obtain ⟨x, hx, rfl, rfl⟩ := mem_pairsF hmem
        have hg5' : w.grownBy w5 none := HG.out.andThen hg5 (fun j hj => by cases hj; exact Or.inl (Nat.le_refl _))
        have HG5 := Lib.hid hg5'
        have hb5 := below_grown hg5'
        have h15 := H1.out.below hb5
        have h25 := H2.out.below hb5
        obtain ⟨nm, hnm⟩ : ∃ nm : ByteArray, nm = ⟨x.f.name.toArray⟩ := ⟨_, rfl⟩
        have hnmd : nm.data.toList = x.f.name := by rw [hnm]
        have hsz : nm.size ≤ maxLen := by
          have h3 := HNM.out x hx
          simp only [nameOk, Bool.and_eq_true, decide_eq_true_eq] at h3
          have h4 : nm.size = x.f.name.length := by rw [← hnmd]; exact Array.length_toList.symm
          unfold maxLen
          omega
        have henc : encStr x.f.name = .string nm := by rw [hnm]
        rw [henc] at hen ⊢
        cases ha : d2.at x.f.name with
        | none =>
          have hlk := h25.lookup_none hsz (by rw [hnmd]; exact h25.at_none ha)
          have HX : Hid (¬ L1.map (·.f) = L2.map (·.f)) := Lib.hid (fun he => by
            have h3 : x.f ∈ L2.map (·.f) := by rw [← he]; exact List.mem_map_of_mem hx
            obtain ⟨y, hy, hye⟩ := List.mem_map.1 h3
            exact h25.at_none ha y hy (by rw [hye]))
          clear h15 h25 ha
          go_wp2_with fail
          go_ret
          exact ⟨by rw [HR.out, decide_eq_false HX.out]; rfl, HG5.out⟩
        | some f =>
          obtain ⟨A, y, B, hL, rfl, hyn⟩ := h25.at_some ha
          have hyL : y ∈ L2 := by rw [hL]; simp
          have hlk := h25.lookup_some (x := y) hyL hsz (by rw [hnmd]; exact hyn)
          have HC : Hid (Calls Try.prog 123 #[.pointer (some ⟨x.blk, 0, none⟩), .pointer (some ⟨y.blk, 0, none⟩)] w5 fun e w' => e = .returned (.bool (sameF x.f y.f)) ∧ w5.grownBy w' none) := Lib.hid (same1_b (h15.each x hx) (h25.each y hyL))
          obtain ⟨sb, hsb⟩ : ∃ sb, sameF x.f y.f = sb := ⟨_, rfl⟩
          rw [hsb] at HC
          have HND := Lib.hid h25.nodup
          clear h15 h25 ha hL
          cases sb with
          | false =>
            have HX : Hid (¬ L1.map (·.f) = L2.map (·.f)) := Lib.hid (fun he => by
              have h3 : x.f ∈ L2.map (·.f) := by rw [← he]; exact List.mem_map_of_mem hx
              obtain ⟨z, hz, hze⟩ := List.mem_map.1 h3
              have h4 := eq_of_name HND.out hz hyL (by rw [hze, hyn])
              rw [← h4, hze, sameF_self] at hsb
              cases hsb)
            go_wp2_with (go_at_call 123; refine HC.out.mono ?_; rintro e w6 ⟨rfl, hg6⟩)
            go_ret
            exact ⟨by rw [HR.out, decide_eq_false HX.out]; rfl, HG5.out.andThen hg6 (fun j hj => by cases hj)⟩
          | true =>
            have hxy : x.f = y.f := sameF_eq hsb hyn.symm
            have HF6 : Hid (∀ z ∈ L1, (left (.string z.f.name) && !(Lit.string z.f.name).sameKey (.string x.f.name)) = false → z.f ∈ L2.map (·.f)) := Lib.hid (fun z hz hf => by
              rw [sameKey_str] at hf
              by_cases he : z.f.name = x.f.name
              · have hzx : z = x := eq_of_name H1.out.nodup hz hx he
                rw [hzx, hxy]
                exact List.mem_map_of_mem hyL
              · rw [decide_eq_false he] at hf
                exact HF.out z hz (by simpa using hf))
            go_wp2_with (go_at_call 123; refine HC.out.mono ?_; rintro e w6 ⟨rfl, hg6⟩)
            have hrg6 := hrg5.kept hg6 (by simp) (by simp)
            have HG6 := Lib.hid (HG5.out.andThen hg6 (fun j hj => by cases hj))
            go_roundw
            case rel => exact ⟨_, _, hrg6, HG6, HF6⟩
            case measure => rw [hrg6.left_eq, hrg.left_eq]; exact hlt
  · have hb0 : (((n1 : Nat) : Int) != (n2 : Int)) = true := by simp; omega
    have HX : Hid (¬ L1.map (·.f) = L2.map (·.f)) := Lib.hid (fun he => hn (by
      have := congrArg List.length he
      simp only [List.length_map] at this
      omega))
    clear hn hn1 hn2
    go_enter Try.func122, Try.ntmps122
    go_wp2_with fail
    go_ret
    exact ⟨by rw [HR.out, decide_eq_false HX.out]; rfl, World.grownBy.refl _ _⟩
set_option maxRecDepth 100000 in
set_option maxHeartbeats 1000000 in
theorem same_b {w : World} {S1 S2 : Nat → Prop} {q1 q2 : Nat} {d1 d2 : Dk} (h1 : DiskAt w S1 q1 d1) (h2 : DiskAt w S2 q2 d2) :
    Calls Try.prog 51 #[.pointer (some ⟨q1, 0, none⟩), .pointer (some ⟨q2, 0, none⟩)] w fun e w' => e = .returned (.bool (decide (d1.files = d2.files))) ∧ Below w.heap.size w w' := by
  obtain ⟨m1, fv1, L1, h1⟩ := h1
  obtain ⟨m2, fv2, L2, h2⟩ := h2
  have c1 : w.cell? ⟨q1, 0, none⟩ = some (.map (some m1)) := cell_of h1.head rfl
  have c2 : w.cell? ⟨q2, 0, none⟩ = some (.map (some m2)) := cell_of h2.head rfl
  have H1 := Lib.hid h1
  have H2 := Lib.hid h2
  clear h1 h2
  obtain ⟨b, hb⟩ : ∃ b, decide (d1.files = d2.files) = b := ⟨_, rfl⟩
  have HC : Hid (∀ W : World, (W = w ∨ W = w.drew) → Calls Try.prog 122 #[.map (some m1), .map (some m2), .func (.func 123) #[] #[]] W fun e w' => e = .returned (.bool b) ∧ Below w.heap.size w w') := Lib.hid (fun W hW => by
    have hbl : Below w.heap.size w W := by rcases hW with rfl | rfl <;> exact ⟨rfl, rfl, rfl, Nat.le_refl _, fun _ _ => rfl⟩
    refine (equal_b (H1.out.below hbl) (H2.out.below hbl)).mono ?_
    rintro e w' ⟨rfl, hg⟩
    rw [hb]
    exact ⟨rfl, hbl.trans ((below_grown hg).mono hbl.size)⟩)
  rw [hb]
  clear hb
  go_enter Try.func51, Try.ntmps51
  go_wp2_with fail
  refine (none_b H1.out).mono ?_
  rintro e w' ⟨rfl, rfl⟩
  go_wp2_with fail
  refine (none_b H2.out).mono ?_
  rintro e w' ⟨rfl, rfl⟩
  go_wp2_with fail
  go_upto_region 3 with fail
  go_region_law (first | (go_simp; go_at_call 122; refine (HC.out _ (by first | exact .inl rfl | exact .inr rfl)).mono ?_; rintro e w5 ⟨rfl, hb5⟩; have HB5 := Lib.hid hb5; clear hb5))
  all_goals
    go_wp2_with fail
    go_ret
    exact ⟨rfl, HB5.out⟩
end Go.Proofs.Ytmkjejngnahpeaa
/- Disk: rows that are written; the names of files that are there: looked through. -/
namespace Go.Proofs.Ytmkjejngnahpeaa
open Go Go.Maps Go.RowKit
open Go.Proofs (encStr)

section
variable {w : World} {e : TypeId} {n cap g off : Nat} {xs : List Value}
theorem rowAt.parts (h : rowAt w e 1 (.slice (some ⟨g, off, none⟩) n cap) n xs) : ∃ cur fr, w.heap[g]? = some (.cells cur e fr) ∧ n ≤ cap ∧ cap ≤ maxLen ∧ off + cap ≤ cur.size ∧ freeRow fr cur.size ∧ (cur.toList.drop off).take n = xs := by
  rcases h.2 with ⟨hv, _⟩ | ⟨g', o', c', cur, fr, hv, hg, hn, hm, hs, hf, ht⟩
  · cases hv
  · simp only [Value.slice.injEq, Option.some.injEq, Addr.mk.injEq] at hv
    obtain ⟨⟨rfl, rfl, -⟩, -, rfl⟩ := hv
    exact ⟨cur, fr, hg, hn, hm, by simpa using hs, hf, by simpa using ht⟩
theorem rowAt.mk' {cur : Array Value} {fr : Nat × Nat} (hg : w.heap[g]? = some (.cells cur e fr)) (hn : n ≤ cap) (hm : cap ≤ maxLen) (hs : off + cap ≤ cur.size) (hf : freeRow fr cur.size) (ht : (cur.toList.drop off).take n = xs) : rowAt w e 1 (.slice (some ⟨g, off, none⟩) n cap) n xs := by
  refine ⟨?_, .inr ⟨g, off, cap, cur, fr, rfl, hg, hn, hm, by simpa using hs, hf, by simpa using ht⟩⟩
  rw [← ht, List.length_take, List.length_drop, Array.length_toList]
  omega
theorem rowAt.free (h : rowAt w e 1 (.slice (some ⟨g, off, none⟩) n cap) n xs) {i : Nat} (hi : i < n) : w.frozen? ⟨g, off + i, none⟩ = false := by
  obtain ⟨cur, fr, hg, hn, _, hs, hf, _⟩ := h.parts
  simp only [World.frozen?, hg]
  exact hf _ (by omega)
theorem rowAt.cell1 (h : rowAt w e 1 (.slice (some ⟨g, off, none⟩) n cap) n xs) {i : Nat} {u : Value} (hu : xs[i]? = some u) : w.cell? ⟨g, off + i, none⟩ = some u := by
  have := h.cells (g := g) (off := off) rfl i u hu
  simpa [Go.WideShapes.add_plain] using this
theorem rowAt.set (h : rowAt w e 1 (.slice (some ⟨g, off, none⟩) n cap) n xs) {i : Nat} (u : Value) : rowAt (w.setCell ⟨g, off + i, none⟩ u) e 1 (.slice (some ⟨g, off, none⟩) n cap) n (xs.set i u) := by
  obtain ⟨cur, fr, hg, hn, hm, hs, hf, ht⟩ := h.parts
  refine rowAt.mk' (heap_setCell_here u hg) hn hm (by simpa using hs) (by simpa using hf) ?_
  rw [Array.toList_setIfInBounds, ← ht, List.drop_set, if_neg (by omega), ← List.take_set]
  congr 2
  omega
theorem rowAt.short (h : rowAt w e 1 (.slice (some ⟨g, off, none⟩) n cap) n xs) {i : Nat} (hi : i ≤ n) : rowAt w e 1 (.slice (some ⟨g, off, none⟩) i cap) i (xs.take i) := by
  obtain ⟨cur, fr, hg, hn, hm, hs, hf, ht⟩ := h.parts
  refine rowAt.mk' hg (by omega) hm hs hf ?_
  rw [← ht, List.take_take]
  congr 1
  omega
end
theorem zeroString (W : World) : (zeroValue 9).run Try.prog W = .ok (.string ⟨#[]⟩) W := by kernel_rfl
/-- the row's end is cleared -/
theorem run_clear_at {w : World} {n cap g off : Nat} {xs : List Value} (h : rowAt w 9 1 (.slice (some ⟨g, off, none⟩) n cap) n xs) {i : Nat} (hi : i ≤ n) :
    ∃ w', (Builtin.clear_ #[94] 0 #[.slice (if cap = i then some ⟨g, off, none⟩ else some ⟨g, off + i, none⟩) (n - i) (cap - i)]).run Try.prog w = .ok (.tuple #[]) w' ∧
      rowAt w' 9 1 (.slice (some ⟨g, off, none⟩) i cap) i (xs.take i) ∧ w.grownBy w' (some g) := by
  obtain ⟨cur, fr, hg, hn, hm, hs, hf, ht⟩ := h.parts
  by_cases hin : n = i
  · subst hin
    refine ⟨w, ?_, h.short (Nat.le_refl _), World.grownBy.refl _ _⟩
    rw [Nat.sub_self]
    split <;> simp [Builtin.clear_, run_underlying Try.underlying94]
  · have hne : ¬ cap = i := by omega
    rw [if_neg hne]
    obtain ⟨m, hmm⟩ : ∃ m, n - i = m + 1 := ⟨n - i - 1, by omega⟩
    rw [hmm]
    have hz := zeroString
    have hfit : off + i + (List.replicate (m + 1) (Value.string ⟨#[]⟩)).length ≤ cur.size := by rw [List.length_replicate]; omega
    have hst := run_storeCells_fr Try.prog g (off + i) 9 fr (List.replicate (m + 1) (Value.string ⟨#[]⟩)) 0 cur w hg hf (by simpa using hfit) (fun v hv => by rw [List.eq_of_mem_replicate hv]; rfl)
    simp only [Nat.add_zero] at hst
    obtain ⟨C, hC⟩ : ∃ C, C = (cur.toList.take (off + i) ++ List.replicate (m + 1) (Value.string ⟨#[]⟩) ++ cur.toList.drop (off + i + (List.replicate (m + 1) (Value.string ⟨#[]⟩)).length)).toArray := ⟨_, rfl⟩
    rw [← hC] at hst
    have hCs : C.size = cur.size := by
      rw [hC]
      simp only [List.size_toArray, List.length_append, List.length_take, List.length_drop, Array.length_toList]
      omega
    have hzc : (Builtin.zeroCells (Value.string ⟨#[]⟩).cells (m + 1)).toList = List.replicate (m + 1) (Value.string ⟨#[]⟩) := by
      show (Builtin.zeroCells #[Value.string ⟨#[]⟩] (m + 1)).toList = _
      simp only [Builtin.zeroCells]
      apply List.ext_getElem
      · simp
      · intro i h1 h2
        simp [Nat.mod_one]
    refine ⟨w.setRow g C, ?_, rowAt.mk' (setRow_heap w g cur C _ fr hg) (by omega) hm (by rw [hCs]; exact hs) (by rw [hCs]; exact hf) ?_, ⟨rfl, rfl, rfl, by simp, fun k _ hk => setRow_other w g k _ (fun e => hk (by simp [e]))⟩⟩
    · simp [Builtin.clear_, run_underlying Try.underlying94, hz, hzc, hst]
    · rw [hC, ← ht]
      simp only [List.append_assoc]
      rw [List.drop_append_of_le_length (by rw [List.length_take, Array.length_toList]; omega), List.take_append_of_le_length (by rw [List.length_drop, List.length_take, Array.length_toList]; omega), List.drop_take, List.take_take, List.take_take]
      congr 1
      omega
set_option maxHeartbeats 400000 in
theorem name1_b {w : World} {S : Nat → Prop} {q mb : Nat} {fv : Value} {L : List Fl} {d : Dk} (h : DiskIs w S q mb fv L d) {x : Fl} (hx : x ∈ L) {b : Nat} (hb : w.cell? ⟨b, 0, none⟩ = some (.pointer (some ⟨q, 0, none⟩))) :
    Calls Try.prog 126 #[encStr x.f.name, .pointer (some ⟨b, 0, none⟩)] w fun e w' => e = .returned (.bool (!x.f.there)) ∧ w' = w := by
  obtain ⟨nm, hnm⟩ : ∃ nm : ByteArray, nm = ⟨x.f.name.toArray⟩ := ⟨_, rfl⟩
  have hnmd : nm.data.toList = x.f.name := by rw [hnm]
  have hsz : nm.size ≤ maxLen := by
    have h3 := h.names x.f (by rw [← h.files]; exact List.mem_map_of_mem hx)
    simp only [nameOk, Bool.and_eq_true, decide_eq_true_eq] at h3
    have h4 : nm.size = x.f.name.length := by rw [← hnmd]; exact Array.length_toList.symm
    unfold maxLen
    omega
  have henc : encStr x.f.name = .string nm := by rw [hnm]
  rw [henc]
  have hlk := h.lookup1_some hx hsz hnmd.symm
  have c0 : w.cell? ⟨q, 0, none⟩ = some (.map (some mb)) := cell_of h.head rfl
  obtain ⟨th, hth⟩ : ∃ th, x.f.there = th := ⟨_, rfl⟩
  have c2 : w.cell? ⟨x.blk, 2, none⟩ = some (.bool th) := by rw [← hth]; exact cell_of (h.each x hx).cells rfl
  rw [hth]
  clear h hnm hnmd hsz henc hth
  go_enter Try.func126, Try.ntmps126
  go_wp2_with fail
  go_ret
  exact ⟨rfl, rfl⟩
end Go.Proofs.Ytmkjejngnahpeaa
/- Disk: Names. -/
namespace Go.Proofs.Ytmkjejngnahpeaa
open Go Go.Maps Go.RowKit
open Go.Proofs (encStr)

def encN (L : List Fl) : List Value := L.map fun x => encStr x.f.name
def AllThere (L : List Fl) : Prop := ∀ x ∈ L, x.f.there = true
theorem AllThere.snoc {L : List Fl} {k : Nat} (h : k < L.length) (ha : AllThere (L.take k)) (hc : L[k].f.there = true) : AllThere (L.take (k + 1)) := by
  intro x hx
  rw [List.take_succ_eq_append_getElem h, List.mem_append, List.mem_singleton] at hx
  rcases hx with hx | rfl
  · exact ha x hx
  · exact hc
set_option maxRecDepth 100000 in
set_option maxHeartbeats 400000 in
theorem indexGone_b {w : World} {S : Nat → Prop} {q mb : Nat} {fv : Value} {L : List Fl} {d : Dk} (h : DiskIs w S q mb fv L d) {b : Nat} (hb : w.cell? ⟨b, 0, none⟩ = some (.pointer (some ⟨q, 0, none⟩)))
    {oa : Option Addr} {n c : Nat} (hn : L.length = n) (hr : rowAt w 9 1 (.slice oa n c) n (encN L)) (hm : n ≤ 1000000000) :
    Calls Try.prog 164 #[.slice oa n c, .func (.func 126) #[] #[.pointer (some ⟨b, 0, none⟩)]] w fun e w' => ∃ i : Int, e = .returned (.int .i64 i) ∧ ((i = -1 ∧ AllThere L) ∨ ∃ k : Nat, ∃ h : k < L.length, i = (k : Int) ∧ AllThere (L.take k) ∧ L[k].f.there = false) ∧ w' = w := by
  have H := Lib.hid h
  have HR := Lib.hid hr
  have HB := Lib.hid hb
  clear h hr hb
  go_enter Try.func164, Try.ntmps164
  go_wp2_with fail
  go_loop [8] (fun i => ∃ k : Nat, k ≤ n ∧ i = .int .i64 k ∧ AllThere (L.take k)) (fun i => n - (intOf i).toNat)
  case atStart => exact ⟨0, Nat.zero_le _, rfl, fun x hx => by simp at hx⟩
  case round =>
    obtain ⟨k, hk, rfl, hge⟩ := hrel
    by_cases hlt : k < n
    · obtain ⟨g, off, rfl⟩ := HR.out.addr (by omega)
      have hkL : k < L.length := by omega
      obtain ⟨x, hx⟩ : ∃ x, L[k] = x := ⟨_, rfl⟩
      have hxm : x ∈ L := by rw [← hx]; exact List.getElem_mem _
      have hcx : w.cell? ⟨g, off + k, none⟩ = some (encStr x.f.name) := HR.out.cell1 (by simp [encN, hkL, hx])
      have HXM := Lib.hid hxm
      obtain ⟨th, hth⟩ : ∃ th, x.f.there = th := ⟨_, rfl⟩
      have HC : Hid (Calls Try.prog 126 #[encStr x.f.name, .pointer (some ⟨b, 0, none⟩)] w fun e w' => e = .returned (.bool (!th)) ∧ w' = w) := Lib.hid (by rw [← hth]; exact name1_b H.out hxm HB.out)
      obtain ⟨sv, hsv⟩ : ∃ sv : ByteArray, encStr x.f.name = .string sv := ⟨_, rfl⟩
      rw [hsv] at hcx HC
      cases th
      · have HX : Hid (∃ h : k < L.length, AllThere (L.take k) ∧ L[k].f.there = false) := Lib.hid ⟨hkL, hge, by rw [hx]; exact hth⟩
        clear hge hx hxm hth hsv
        go_wp2_with (go_at_call 126; refine HC.out.mono ?_; rintro e w' ⟨rfl, rfl⟩)
        go_ret
        exact ⟨_, rfl, .inr ⟨k, HX.out.1, rfl, HX.out.2⟩, rfl⟩
      · have HX : Hid (AllThere (L.take (k + 1))) := Lib.hid (AllThere.snoc hkL hge (by rw [hx]; exact hth))
        clear hge hx hxm hth hsv
        go_wp2_with (go_at_call 126; refine HC.out.mono ?_; rintro e w' ⟨rfl, rfl⟩)
        exact ⟨⟨k + 1, by omega, by simp, HX.out⟩, by simp [intOf]; omega⟩
    · obtain rfl : k = n := by omega
      have HA : Hid (AllThere L) := Lib.hid (by rwa [List.take_of_length_le (by omega)] at hge)
      clear hge
      go_wp2_with fail
      go_ret
      exact ⟨_, rfl, .inl ⟨rfl, HA.out⟩, rfl⟩
/-- the row while the names are parted: the first k are those kept of the first m -/
structure Parted (L : List Fl) (m k : Nat) (xs : List Value) : Prop where
  len : xs.length = L.length
  kept : xs.take k = encN ((L.take m).filter (·.f.there))
  k : k = ((L.take m).filter (·.f.there)).length
  rest : ∀ j, m ≤ j → xs[j]? = (encN L)[j]?
theorem Parted.start {L : List Fl} {k : Nat} (hk : k < L.length) (ha : AllThere (L.take k)) (hc : L[k].f.there = false) : Parted L (k + 1) k (encN L) := by
  have e : (L.take (k + 1)).filter (·.f.there) = L.take k := by
    rw [List.take_succ_eq_append_getElem hk, List.filter_append, List.filter_eq_self.2 (fun x hx => ha x hx)]
    simp [hc]
  exact ⟨by simp [encN], by rw [e]; simp [encN, List.map_take], by rw [e, List.length_take]; omega, fun _ _ => rfl⟩
theorem Parted.skip {L : List Fl} {m k : Nat} {xs : List Value} (h : Parted L m k xs) (hm : m < L.length) (hc : L[m].f.there = false) : Parted L (m + 1) k xs := by
  have e : (L.take (m + 1)).filter (·.f.there) = (L.take m).filter (·.f.there) := by
    rw [List.take_succ_eq_append_getElem hm, List.filter_append]
    simp [hc]
  exact ⟨h.len, by rw [e]; exact h.kept, by rw [e]; exact h.k, fun j hj => h.rest j (by omega)⟩
theorem Parted.lt {L : List Fl} {m k : Nat} {xs : List Value} (h : Parted L m k xs) : k ≤ m := by
  have h1 := h.k
  have h2 := List.length_filter_le (fun x : Fl => x.f.there) (L.take m)
  rw [List.length_take] at h2
  omega
theorem Parted.keep {L : List Fl} {m k : Nat} {xs : List Value} (h : Parted L m k xs) (hm : m < L.length) (hc : L[m].f.there = true) : Parted L (m + 1) (k + 1) (xs.set k (encStr L[m].f.name)) := by
  have e : (L.take (m + 1)).filter (·.f.there) = (L.take m).filter (·.f.there) ++ [L[m]] := by
    rw [List.take_succ_eq_append_getElem hm, List.filter_append]
    simp [hc]
  have hkm := h.lt
  have hkx : k < xs.length := by rw [h.len]; omega
  refine ⟨by simp [h.len], ?_, by rw [e, List.length_append, ← h.k]; rfl, fun j hj => ?_⟩
  · rw [e, List.take_succ_eq_append_getElem (by simpa using hkx)]
    simp only [List.getElem_set_self, List.take_set_of_le (Nat.le_refl k)]
    rw [h.kept]
    simp [encN]
  · rw [List.getElem?_set_ne (by omega)]
    exact h.rest j (by omega)
theorem take_run {oa : Option Addr} {n c : Nat} (i : Nat) (hi : i ≤ c) (h0 : oa.map (fun x => x.add 0) = oa) (W : World) : (Instr.slice 94 (.slice oa n c) none (some (.int .i64 (i : Int))) none).run Try.prog W = .ok (.slice oa i c) W := by
  have hs : (sizeOf 9).run Try.prog W = .ok 1 W := by kernel_rfl
  have he : Try.prog.elem 94 = 9 := by kernel_rfl
  rw [run_slice_h (P := Try.prog) (w := W) 94 oa n c (by rw [he]; exact Try.underlying94) .i64 i (by omega) (by omega), he, hs]
  simp [Result.andThen, sliced, h0]
theorem drop_run (g off n c i : Nat) (hi : i ≤ n) (W : World) : (Instr.slice 94 (.slice (some ⟨g, off, none⟩) n c) (some (.int .i64 (i : Int))) none none).run Try.prog W = .ok (.slice (if c = i then some ⟨g, off, none⟩ else some ⟨g, off + i, none⟩) (n - i) (c - i)) W := by
  have hs : (sizeOf 9).run Try.prog W = .ok 1 W := by kernel_rfl
  have he : Try.prog.elem 94 = 9 := by kernel_rfl
  rw [run_slice_l (P := Try.prog) (w := W) 94 (some ⟨g, off, none⟩) n c (by rw [he]; exact Try.underlying94) .i64 i (by omega) (by omega), he, hs]
  simp [Result.andThen, sliced, Go.WideShapes.add_plain]
end Go.Proofs.Ytmkjejngnahpeaa
