/- stops: the unsure files, how they lie; in how many ways they may be. -/
import Derived.Test.YtmkjejngnahpeaaIy
namespace Go.Proofs.Ytmkjejngnahpeaa
open Go Go.Maps Go.RowKit

structure U0 where
  name : Bool
  more : Nat
def U0.cells (u : U0) : List Value := [.bool u.name, .int .i64 u.more]
def uCells (l : List U0) : List Value := l.flatMap U0.cells
theorem uCells_length : ∀ l : List U0, (uCells l).length = l.length * 2
  | [] => rfl
  | x :: r => by
    show (x.cells ++ uCells r).length = _
    simp only [List.length_append, List.length_cons, uCells_length r]
    show 2 + _ = _
    omega
theorem uCells_append (a b : List U0) : uCells (a ++ b) = uCells a ++ uCells b := by simp [uCells]
theorem uCells_get : ∀ {l : List U0} {j i : Nat} (hj : j < l.length), i < 2 → (uCells l)[j * 2 + i]? = (l[j].cells)[i]?
  | x :: r, 0, i, _, hi => by
    show (x.cells ++ uCells r)[0 * 2 + i]? = _
    rw [Nat.zero_mul, Nat.zero_add, List.getElem?_append_left (show i < 2 from hi)]
    rfl
  | x :: r, j + 1, i, hj, hi => by
    show (x.cells ++ uCells r)[(j + 1) * 2 + i]? = _
    have h : x.cells.length = 2 := rfl
    rw [List.getElem?_append_right (by rw [h]; omega), h]
    have e : (j + 1) * 2 + i - 2 = j * 2 + i := by omega
    rw [e, uCells_get (l := r) (by simpa using hj) hi]
    rfl
theorem uCells_one (l : List U0) : ∀ v ∈ uCells l, v.oneCell' = true := by
  intro v hv
  obtain ⟨f, _, h⟩ := List.mem_flatMap.1 hv
  simp only [U0.cells, List.mem_cons, List.not_mem_nil, or_false] at h
  rcases h with rfl | rfl <;> rfl
/-- v is a row of these unsure files -/
abbrev usAt (w : World) (v : Value) (l : List U0) : Prop := readAt w 2 v l.length (uCells l)
theorem us_cell {w : World} {g off N c i j : Nat} {l : List U0} (h : readAt w 2 (.slice (some ⟨g, off, none⟩) N c) N (uCells l)) (hj : j < l.length) (hi : i < 2) {u : Value} (hu : (l[j].cells)[i]? = some u) : w.cell? ⟨g, off + j * 2 + i, none⟩ = some u := by
  have := h.cellAt (i := j * 2 + i) (u := u) (by rw [uCells_get hj hi, hu])
  simpa [Nat.add_assoc] using this
def U0.ways (u : U0) : Nat := u.more + 1 + (if u.name = true then 1 else 0)
theorem U0.ways_pos (u : U0) : 1 ≤ u.ways := by unfold U0.ways; omega
theorem U0.ways_le {u : U0} (h : u.more ≤ 16777216) : u.ways ≤ 16777218 := by unfold U0.ways; split <;> omega
set_option maxRecDepth 100000 in
set_option maxHeartbeats 400000 in
theorem ways_b (b : Bool) (m : Nat) (hm : m ≤ 16777216) (w : World) : Calls Try.prog 138 #[.agg #[.bool b, .int .i64 m]] w fun e w' => e = .returned (.int .i64 ((U0.mk b m).ways)) ∧ Below w.heap.size w w' := by
  have hb1 : Below w.heap.size w (w.alloc (.cells #[.bool b, .int .i64 m] 213)) := (Below.refl _ _).alloc (Nat.le_refl _) _
  cases b
  · have he : ((U0.mk false m).ways : Int) = (m : Int) + 1 := by simp [U0.ways]
    rw [he]
    go_enter Try.func138, Try.ntmps138
    go_wp2_with fail
    go_ret
    exact ⟨rfl, hb1⟩
  · have he : ((U0.mk true m).ways : Int) = (m : Int) + 1 + 1 := by simp [U0.ways]
    rw [he]
    go_enter Try.func138, Try.ntmps138
    go_wp2_with fail
    go_ret
    exact ⟨rfl, hb1⟩
def most62 : Nat := 4611686018427387904
def countStep (a : Option Nat) (u : U0) : Option Nat := a.bind fun n => if most62 / u.ways < n then none else some (n * u.ways)
/-- in how many ways all may be, if they can be counted -/
def countT (l : List U0) : Option Nat := l.foldl countStep (some 1)
theorem countT_succ {l : List U0} {j : Nat} (hj : j < l.length) : countT (l.take (j + 1)) = countStep (countT (l.take j)) l[j] := by
  unfold countT
  rw [List.take_succ_eq_append_getElem hj, List.foldl_append]
  rfl
theorem count_none : ∀ (l : List U0), l.foldl countStep none = none
  | [] => rfl
  | _ :: r => count_none r
theorem countT_none {l : List U0} {j : Nat} (h : countT (l.take j) = none) : countT l = none := by
  rw [← List.take_append_drop j l]
  unfold countT at *
  rw [List.foldl_append, h, count_none]
theorem countT_le : ∀ (l : List U0) (a c : Nat), a ≤ most62 → l.foldl countStep (some a) = some c → c ≤ most62
  | [], a, c, ha, h => by
    simp only [List.foldl_nil, Option.some.injEq] at h
    omega
  | u :: r, a, c, ha, h => by
    rw [List.foldl_cons] at h
    unfold countStep at h
    rw [Option.bind_some] at h
    split at h
    · have := count_none r
      unfold countStep at this
      rw [this] at h
      cases h
    · rename_i hle
      have h1 : a ≤ most62 / u.ways := by omega
      have h2 : a * u.ways ≤ most62 := Nat.le_trans (Nat.mul_le_mul_right _ h1) (Nat.div_mul_le_self _ _)
      exact countT_le r (a * u.ways) c h2 h
theorem countT_most {l : List U0} {c : Nat} (h : countT l = some c) : c ≤ most62 := countT_le l 1 c (by unfold most62; omega) h
def cntV (r : Option Nat) : Value × Int := match r with
  | some c => (.int .i64 c, 0)
  | none => (.int .i64 0, 3)
set_option maxRecDepth 100000 in
set_option maxHeartbeats 1000000 in
theorem count_b {w : World} {oa : Option Addr} {n c : Nat} {l : List U0} (hn : l.length = n) (h : readAt w 2 (.slice oa n c) n (uCells l)) (hm : n ≤ 1000000) (hsm : ∀ u ∈ l, u.more ≤ 16777216) :
    Calls Try.prog 134 #[.slice oa n c] w fun e w' => e = .returned (.tuple #[(cntV (countT l)).1, .int .i64 (cntV (countT l)).2]) ∧ Below w.heap.size w w' := by
  have HR := Lib.hid h
  have HN := Lib.hid hn
  have HS := Lib.hid hsm
  clear h hn hsm
  go_enter Try.func134, Try.ntmps134
  go_wp2_with fail
  go_loopw [4, 9] (fun s i wr => ∃ (j k : Nat), j ≤ n ∧ i = .int .i64 j ∧ s = .int .i64 k ∧ Hid (countT (l.take j) = some k) ∧ Hid (Below w.heap.size w wr)) (fun _ i wr => n - (intOf i).toNat)
  case atStart => exact ⟨0, 1, Nat.zero_le _, rfl, rfl, Lib.hid (by simp [countT]), Lib.hid (Below.refl _ _)⟩
  case round =>
    obtain ⟨j, k, hj, rfl, rfl, HC, HB⟩ := hrel
    by_cases hlt : j < n
    · have hjl : j < l.length := by rw [HN.out]; exact hlt
      have hrw : readAt wr 2 (.slice oa n c) n (uCells l) := HR.out.kept (fun k hl _ _ => HB.out.block k hl)
      obtain ⟨g, off, rfl⟩ := hrw.addr (by omega)
      obtain ⟨u, hu⟩ : ∃ u, l[j] = u := ⟨_, rfl⟩
      have hum : u.more ≤ 16777216 := HS.out u (by rw [← hu]; exact List.getElem_mem _)
      obtain ⟨ub, hub⟩ : ∃ b, u.name = b := ⟨_, rfl⟩
      obtain ⟨um, humm⟩ : ∃ m, u.more = m := ⟨_, rfl⟩
      have k0 : wr.cell? ⟨g, off + j * 2, none⟩ = some (.bool ub) := us_cell (i := 0) hrw hjl (by omega) (by rw [hu, ← hub]; rfl)
      have k1 : wr.cell? ⟨g, off + j * 2 + 1, none⟩ = some (.int .i64 um) := us_cell (i := 1) hrw hjl (by omega) (by rw [hu, ← humm]; rfl)
      have hue : u = ⟨ub, um⟩ := by rw [← hub, ← humm]
      have HCS : Hid (countT (l.take (j + 1)) = countStep (some k) ⟨ub, um⟩) := Lib.hid (by rw [countT_succ hjl, HC.out, hu, hue])
      have HW := Lib.hid (fun W => ways_b ub um (by omega) W)
      obtain ⟨W, hW⟩ : ∃ W, (U0.mk ub um).ways = W := ⟨_, rfl⟩
      have hkm := countT_most HC.out
      have humm' := humm
      clear hrw hu hue hub humm
      go_upto_region 5 with fail
      obtain ⟨w2, hw2⟩ : ∃ W : World, W = wr.alloc (.cells #[.bool ub, .int .i64 um] 213) := ⟨_, rfl⟩
      obtain ⟨b6, hb6⟩ : ∃ b, b = wr.heap.size := ⟨_, rfl⟩
      have h2 : w2.heap[b6]? = some (.cells #[.bool ub, .int .i64 um] 213 (0, 0)) := by rw [hw2, hb6]; exact alloc_cells _ _ _
      have hb2 : Below wr.heap.size wr w2 := by rw [hw2]; exact (Below.refl _ _).alloc (Nat.le_refl _) _
      rw [← hw2, ← hb6]
      have HB2 := Lib.hid (HB.out.trans (hb2.mono HB.out.size))
      have H2 := Lib.hid h2
      have y0 : w2.cell? ⟨b6, 0, none⟩ = some (.bool ub) := cell_of h2 rfl
      have y1 : w2.cell? ⟨b6, 1, none⟩ = some (.int .i64 um) := cell_of h2 rfl
      clear hw2 hb6 h2 hb2 k0 k1
      go_wp2_with fail
      refine (HW.out w2).mono ?_
      rintro e w3 ⟨rfl, hb3⟩
      rw [hW]
      have h3 := (hb3.block b6 (Array.getElem?_eq_some_iff.1 H2.out).1).trans H2.out
      have y0' : w3.cell? ⟨b6, 0, none⟩ = some (.bool ub) := cell_of h3 rfl
      have y1' : w3.cell? ⟨b6, 1, none⟩ = some (.int .i64 um) := cell_of h3 rfl
      have HB3 := Lib.hid (HB2.out.trans (hb3.mono HB2.out.size))
      have hWp : 1 ≤ W := by rw [← hW]; exact U0.ways_pos _
      have hWm : W ≤ 16777218 := by rw [← hW]; exact U0.ways_le (by show um ≤ _; rw [← humm']; exact hum)
      have hq : (4611686018427387904 : Int) / (W : Int) = ((most62 / W : Nat) : Int) := by rw [Int.natCast_ediv]; rfl
      clear hb3 h3
      by_cases hbig : most62 / W < k
      · have hd : decide ((4611686018427387904 : Int) / (W : Int) < (k : Int)) = true := decide_eq_true (by rw [hq]; omega)
        have HE : Hid (countT l = none) := Lib.hid (countT_none (j := j + 1) (by
          rw [HCS.out]
          unfold countStep
          rw [Option.bind_some, hW, if_pos hbig]))
        clear hq
        go_wp2_with fail
        go_ret2
        exact ⟨by rw [HE.out]; rfl, HB3.out⟩
      · have hd : decide ((4611686018427387904 : Int) / (W : Int) < (k : Int)) = false := decide_eq_false (by rw [hq]; omega)
        have hkw : k * W ≤ most62 := Nat.le_trans (Nat.mul_le_mul_right _ (by omega)) (Nat.div_mul_le_self _ _)
        obtain ⟨kw, hkwe⟩ : ∃ m, k * W = m := ⟨_, rfl⟩
        have hmul : (k : Int) * (W : Int) = (kw : Int) := by rw [← hkwe]; exact (Int.natCast_mul k W).symm
        have HE : Hid (countT (l.take (j + 1)) = some kw) := Lib.hid (by
          rw [HCS.out]
          unfold countStep
          rw [Option.bind_some, hW, if_neg hbig, hkwe])
        rw [hkwe] at hkw
        unfold most62 at hkw
        clear hq hkwe hbig hkm
        go_wp2_with fail
        refine (HW.out w3).mono ?_
        rintro e w4 ⟨rfl, hb4⟩
        rw [hW]
        have HB4 := Lib.hid (HB3.out.trans (hb4.mono HB3.out.size))
        clear hb4
        go_wp2_with fail
        exact ⟨⟨j + 1, kw, by omega, by simp, by simp, HE, HB4⟩, by simp [intOf]; omega⟩
    · obtain rfl : j = n := by omega
      have HE : Hid (countT l = some k) := Lib.hid (by
        have h1 := HC.out
        rwa [List.take_of_length_le (by rw [HN.out]; exact Nat.le_refl _)] at h1)
      go_wp2_with fail
      go_ret2
      exact ⟨by rw [HE.out]; rfl, HB.out⟩
end Go.Proofs.Ytmkjejngnahpeaa
