/- The texts Ja, Kb, Gd, Jb, Jc in one. -/
import Derived.Test.YtmkjejngnahpeaaB7
import Derived.Test.YtmkjejngnahpeaaB6
import Derived.RangeFuncNested
import Derived.RangeFuncWrites
import Derived.Test.YtmkjejngnahpeaaB5
/- stops: the unsure files, how they lie; in how many ways they may be. -/
namespace Go.Proofs.Ytmkjejngnahpeaa
open Go Go.Maps Go.RowKit

structure U0 where
  name : Bool
  more : Nat
def U0.cells (u : U0) : List Value := [.bool u.name, .int .i64 u.more]
def uCells (l : List U0) : List Value := l.flatMap U0.cells
theorem uCells_length : ∀ l : List U0, (uCells l).length = l.length * 2
  | [] => rfl
  | x :: r => by
    show (x.cells ++ uCells r).length = _
    simp only [List.length_append, List.length_cons, uCells_length r]
    show 2 + _ = _
    omega
theorem uCells_append (a b : List U0) : uCells (a ++ b) = uCells a ++ uCells b := by simp [uCells]
theorem uCells_get : ∀ {l : List U0} {j i : Nat} (hj : j < l.length), i < 2 → (uCells l)[j * 2 + i]? = (l[j].cells)[i]?
  | x :: r, 0, i, _, hi => by
    show (x.cells ++ uCells r)[0 * 2 + i]? = _
    rw [Nat.zero_mul, Nat.zero_add, List.getElem?_append_left (show i < 2 from hi)]
    rfl
  | x :: r, j + 1, i, hj, hi => by
    show (x.cells ++ uCells r)[(j + 1) * 2 + i]? = _
    have h : x.cells.length = 2 := rfl
    rw [List.getElem?_append_right (by rw [h]; omega), h]
    have e : (j + 1) * 2 + i - 2 = j * 2 + i := by omega
    rw [e, uCells_get (l := r) (by simpa using hj) hi]
    rfl
theorem uCells_one (l : List U0) : ∀ v ∈ uCells l, v.oneCell' = true := by
  intro v hv
  obtain ⟨f, _, h⟩ := List.mem_flatMap.1 hv
  simp only [U0.cells, List.mem_cons, List.not_mem_nil, or_false] at h
  rcases h with rfl | rfl <;> rfl
/-- v is a row of these unsure files -/
abbrev usAt (w : World) (v : Value) (l : List U0) : Prop := readAt w 2 v l.length (uCells l)
theorem us_cell {w : World} {g off N c i j : Nat} {l : List U0} (h : readAt w 2 (.slice (some ⟨g, off, none⟩) N c) N (uCells l)) (hj : j < l.length) (hi : i < 2) {u : Value} (hu : (l[j].cells)[i]? = some u) : w.cell? ⟨g, off + j * 2 + i, none⟩ = some u := by
  have := h.cellAt (i := j * 2 + i) (u := u) (by rw [uCells_get hj hi, hu])
  simpa [Nat.add_assoc] using this
def U0.ways (u : U0) : Nat := u.more + 1 + (if u.name = true then 1 else 0)
theorem U0.ways_pos (u : U0) : 1 ≤ u.ways := by unfold U0.ways; omega
theorem U0.ways_le {u : U0} (h : u.more ≤ 16777216) : u.ways ≤ 16777218 := by unfold U0.ways; split <;> omega
set_option maxRecDepth 100000 in
set_option maxHeartbeats 400000 in
theorem ways_b (b : Bool) (m : Nat) (hm : m ≤ 16777216) (w : World) : Calls Try.prog 138 #[.agg #[.bool b, .int .i64 m]] w fun e w' => e = .returned (.int .i64 ((U0.mk b m).ways)) ∧ Below w.heap.size w w' := by
  have hb1 : Below w.heap.size w (w.alloc (.cells #[.bool b, .int .i64 m] 213)) := (Below.refl _ _).alloc (Nat.le_refl _) _
  cases b
  · have he : ((U0.mk false m).ways : Int) = (m : Int) + 1 := by simp [U0.ways]
    rw [he]
    go_enter Try.func138, Try.ntmps138
    go_wp2_with fail
    go_ret
    exact ⟨rfl, hb1⟩
  · have he : ((U0.mk true m).ways : Int) = (m : Int) + 1 + 1 := by simp [U0.ways]
    rw [he]
    go_enter Try.func138, Try.ntmps138
    go_wp2_with fail
    go_ret
    exact ⟨rfl, hb1⟩
def most62 : Nat := 4611686018427387904
def countStep (a : Option Nat) (u : U0) : Option Nat := a.bind fun n => if most62 / u.ways < n then none else some (n * u.ways)
/-- in how many ways all may be, if they can be counted -/
def countT (l : List U0) : Option Nat := l.foldl countStep (some 1)
theorem countT_succ {l : List U0} {j : Nat} (hj : j < l.length) : countT (l.take (j + 1)) = countStep (countT (l.take j)) l[j] := by
  unfold countT
  rw [List.take_succ_eq_append_getElem hj, List.foldl_append]
  rfl
theorem count_none : ∀ (l : List U0), l.foldl countStep none = none
  | [] => rfl
  | _ :: r => count_none r
theorem countT_none {l : List U0} {j : Nat} (h : countT (l.take j) = none) : countT l = none := by
  rw [← List.take_append_drop j l]
  unfold countT at *
  rw [List.foldl_append, h, count_none]
theorem countT_le : ∀ (l : List U0) (a c : Nat), a ≤ most62 → l.foldl countStep (some a) = some c → c ≤ most62
  | [], a, c, ha, h => by
    simp only [List.foldl_nil, Option.some.injEq] at h
    omega
  | u :: r, a, c, ha, h => by
    rw [List.foldl_cons] at h
    unfold countStep at h
    rw [Option.bind_some] at h
    split at h
    · have := count_none r
      unfold countStep at this
      rw [this] at h
      cases h
    · rename_i hle
      have h1 : a ≤ most62 / u.ways := by omega
      have h2 : a * u.ways ≤ most62 := Nat.le_trans (Nat.mul_le_mul_right _ h1) (Nat.div_mul_le_self _ _)
      exact countT_le r (a * u.ways) c h2 h
theorem countT_most {l : List U0} {c : Nat} (h : countT l = some c) : c ≤ most62 := countT_le l 1 c (by unfold most62; omega) h
def cntV (r : Option Nat) : Value × Int := match r with
  | some c => (.int .i64 c, 0)
  | none => (.int .i64 0, 3)
set_option maxRecDepth 100000 in
set_option maxHeartbeats 1000000 in
theorem count_b {w : World} {oa : Option Addr} {n c : Nat} {l : List U0} (hn : l.length = n) (h : readAt w 2 (.slice oa n c) n (uCells l)) (hm : n ≤ 1000000) (hsm : ∀ u ∈ l, u.more ≤ 16777216) :
    Calls Try.prog 134 #[.slice oa n c] w fun e w' => e = .returned (.tuple #[(cntV (countT l)).1, .int .i64 (cntV (countT l)).2]) ∧ Below w.heap.size w w' := by
  have HR := Lib.hid h
  have HN := Lib.hid hn
  have HS := Lib.hid hsm
  clear h hn hsm
  go_enter Try.func134, Try.ntmps134
  go_wp2_with fail
  go_loopw [4, 9] (fun s i wr => ∃ (j k : Nat), j ≤ n ∧ i = .int .i64 j ∧ s = .int .i64 k ∧ Hid (countT (l.take j) = some k) ∧ Hid (Below w.heap.size w wr)) (fun _ i wr => n - (intOf i).toNat)
  case atStart => exact ⟨0, 1, Nat.zero_le _, rfl, rfl, Lib.hid (by simp [countT]), Lib.hid (Below.refl _ _)⟩
  case round =>
    obtain ⟨j, k, hj, rfl, rfl, HC, HB⟩ := hrel
    by_cases hlt : j < n
    · have hjl : j < l.length := by rw [HN.out]; exact hlt
      have hrw : readAt wr 2 (.slice oa n c) n (uCells l) := HR.out.kept (fun k hl _ _ => HB.out.block k hl)
      obtain ⟨g, off, rfl⟩ := hrw.addr (by omega)
      obtain ⟨u, hu⟩ : ∃ u, l[j] = u := ⟨_, rfl⟩
      have hum : u.more ≤ 16777216 := HS.out u (by rw [← hu]; exact List.getElem_mem _)
      obtain ⟨ub, hub⟩ : ∃ b, u.name = b := ⟨_, rfl⟩
      obtain ⟨um, humm⟩ : ∃ m, u.more = m := ⟨_, rfl⟩
      have k0 : wr.cell? ⟨g, off + j * 2, none⟩ = some (.bool ub) := us_cell (i := 0) hrw hjl (by omega) (by rw [hu, ← hub]; rfl)
      have k1 : wr.cell? ⟨g, off + j * 2 + 1, none⟩ = some (.int .i64 um) := us_cell (i := 1) hrw hjl (by omega) (by rw [hu, ← humm]; rfl)
      have hue : u = ⟨ub, um⟩ := by rw [← hub, ← humm]
      have HCS : Hid (countT (l.take (j + 1)) = countStep (some k) ⟨ub, um⟩) := Lib.hid (by rw [countT_succ hjl, HC.out, hu, hue])
      have HW := Lib.hid (fun W => ways_b ub um (by omega) W)
      obtain ⟨W, hW⟩ : ∃ W, (U0.mk ub um).ways = W := ⟨_, rfl⟩
      have hkm := countT_most HC.out
      have humm' := humm
      clear hrw hu hue hub humm
      go_upto_region 5 with fail
      obtain ⟨w2, hw2⟩ : ∃ W : World, W = wr.alloc (.cells #[.bool ub, .int .i64 um] 213) := ⟨_, rfl⟩
      obtain ⟨b6, hb6⟩ : ∃ b, b = wr.heap.size := ⟨_, rfl⟩
      have h2 : w2.heap[b6]? = some (.cells #[.bool ub, .int .i64 um] 213 (0, 0)) := by rw [hw2, hb6]; exact alloc_cells _ _ _
      have hb2 : Below wr.heap.size wr w2 := by rw [hw2]; exact (Below.refl _ _).alloc (Nat.le_refl _) _
      rw [← hw2, ← hb6]
      have HB2 := Lib.hid (HB.out.trans (hb2.mono HB.out.size))
      have H2 := Lib.hid h2
      have y0 : w2.cell? ⟨b6, 0, none⟩ = some (.bool ub) := cell_of h2 rfl
      have y1 : w2.cell? ⟨b6, 1, none⟩ = some (.int .i64 um) := cell_of h2 rfl
      clear hw2 hb6 h2 hb2 k0 k1
      go_wp2_with fail
      refine (HW.out w2).mono ?_
      rintro e w3 ⟨rfl, hb3⟩
      rw [hW]
      have h3 := (hb3.block b6 (Array.getElem?_eq_some_iff.1 H2.out).1).trans H2.out
      have y0' : w3.cell? ⟨b6, 0, none⟩ = some (.bool ub) := cell_of h3 rfl
      have y1' : w3.cell? ⟨b6, 1, none⟩ = some (.int .i64 um) := cell_of h3 rfl
      have HB3 := Lib.hid (HB2.out.trans (hb3.mono HB2.out.size))
      have hWp : 1 ≤ W := by rw [← hW]; exact U0.ways_pos _
      have hWm : W ≤ 16777218 := by rw [← hW]; exact U0.ways_le (by show um ≤ _; rw [← humm']; exact hum)
      have hq : (4611686018427387904 : Int) / (W : Int) = ((most62 / W : Nat) : Int) := by rw [Int.natCast_ediv]; rfl
      clear hb3 h3
      by_cases hbig : most62 / W < k
      · have hd : decide ((4611686018427387904 : Int) / (W : Int) < (k : Int)) = true := decide_eq_true (by rw [hq]; omega)
        have HE : Hid (countT l = none) := Lib.hid (countT_none (j := j + 1) (by
          rw [HCS.out]
          unfold countStep
          rw [Option.bind_some, hW, if_pos hbig]))
        clear hq
        go_wp2_with fail
        go_ret2
        exact ⟨by rw [HE.out]; rfl, HB3.out⟩
      · have hd : decide ((4611686018427387904 : Int) / (W : Int) < (k : Int)) = false := decide_eq_false (by rw [hq]; omega)
        have hkw : k * W ≤ most62 := Nat.le_trans (Nat.mul_le_mul_right _ (by omega)) (Nat.div_mul_le_self _ _)
        obtain ⟨kw, hkwe⟩ : ∃ m, k * W = m := ⟨_, rfl⟩
        have hmul : (k : Int) * (W : Int) = (kw : Int) := by rw [← hkwe]; exact (Int.natCast_mul k W).symm
        have HE : Hid (countT (l.take (j + 1)) = some kw) := Lib.hid (by
          rw [HCS.out]
          unfold countStep
          rw [Option.bind_some, hW, if_neg hbig, hkwe])
        rw [hkwe] at hkw
        unfold most62 at hkw
        clear hq hkwe hbig hkm
        go_wp2_with fail
        refine (HW.out w3).mono ?_
        rintro e w4 ⟨rfl, hb4⟩
        rw [hW]
        have HB4 := Lib.hid (HB3.out.trans (hb4.mono HB3.out.size))
        clear hb4
        go_wp2_with fail
        exact ⟨⟨j + 1, kw, by omega, by simp, by simp, HE, HB4⟩, by simp [intOf]; omega⟩
    · obtain rfl : j = n := by omega
      have HE : Hid (countT l = some k) := Lib.hid (by
        have h1 := HC.out
        rwa [List.take_of_length_le (by rw [HN.out]; exact Nat.le_refl _)] at h1)
      go_wp2_with fail
      go_ret2
      exact ⟨by rw [HE.out]; rfl, HB.out⟩
end Go.Proofs.Ytmkjejngnahpeaa
/- stops: the ways of files by their number: digits. -/
namespace Go.Proofs.Ytmkjejngnahpeaa
open Go

/-- in how many ways all may be -/
def prodW : List U0 → Nat
  | [] => 1
  | u :: r => u.ways * prodW r
/-- the k-th way of all: each file's -/
def digT : List U0 → Nat → List Nat
  | [], _ => []
  | u :: r, k => (k / prodW r % u.ways) :: digT r k
theorem prodW_pos : ∀ l : List U0, 0 < prodW l
  | [] => Nat.one_pos
  | u :: r => Nat.mul_pos u.ways_pos (prodW_pos r)
theorem prodW_append : ∀ A B : List U0, prodW (A ++ B) = prodW A * prodW B
  | [], B => (Nat.one_mul _).symm
  | u :: A, B => by
    show u.ways * prodW (A ++ B) = u.ways * prodW A * prodW B
    rw [prodW_append A B, Nat.mul_assoc]
theorem digT_len : ∀ (l : List U0) (k : Nat), (digT l k).length = l.length
  | [], _ => rfl
  | u :: r, k => by
    show (digT r k).length + 1 = r.length + 1
    rw [digT_len r k]
theorem digT_append : ∀ (A B : List U0) (k : Nat), digT (A ++ B) k = digT A (k / prodW B) ++ digT B k
  | [], B, k => rfl
  | u :: A, B, k => by
    show (k / prodW (A ++ B) % u.ways) :: digT (A ++ B) k = (k / prodW B / prodW A % u.ways) :: (digT A (k / prodW B) ++ digT B k)
    rw [digT_append A B k, prodW_append, Nat.div_div_eq_div_mul, Nat.mul_comm (prodW B)]
theorem digT_mul : ∀ (B : List U0) (c : Nat), digT B (c * prodW B) = List.replicate B.length 0
  | [], _ => rfl
  | u :: r, c => by
    show (c * (u.ways * prodW r) / prodW r % u.ways) :: digT r (c * (u.ways * prodW r)) = _
    rw [← Nat.mul_assoc, digT_mul r (c * u.ways), Nat.mul_div_cancel _ (prodW_pos r), Nat.mul_mod_left]
    rfl
theorem digT_zero (l : List U0) : digT l 0 = List.replicate l.length 0 := by
  have := digT_mul l 0
  rwa [Nat.zero_mul] at this
theorem digT_lt : ∀ (l : List U0) (k : Nat) (j : Nat) (h : j < l.length) (h2 : j < (digT l k).length), (digT l k)[j] < l[j].ways
  | u :: r, k, 0, _, _ => Nat.mod_lt _ u.ways_pos
  | u :: r, k, j + 1, h, h2 => digT_lt r k j (by simpa using h) (by simpa [digT] using h2)
/-- the ways while one is counted on: from place m on all stood at their ends -/
def rowM (l : List U0) (k m : Nat) : List Nat := digT (l.take m) (k / prodW (l.drop m)) ++ List.replicate (l.length - m) 0
theorem rowM_full (l : List U0) (k : Nat) : rowM l k l.length = digT l k := by
  unfold rowM
  rw [List.take_length, List.drop_length, Nat.sub_self]
  simp [prodW]
theorem rowM_len {l : List U0} {k m : Nat} (h : m ≤ l.length) : (rowM l k m).length = l.length := by
  unfold rowM
  rw [List.length_append, digT_len, List.length_take, List.length_replicate]
  omega
theorem drop_cons {l : List U0} {j : Nat} (hj : j < l.length) : prodW (l.drop j) = l[j].ways * prodW (l.drop (j + 1)) := by
  rw [List.drop_eq_getElem_cons hj]
  rfl
theorem digT_snoc (A : List U0) (u : U0) (k : Nat) : digT (A ++ [u]) k = digT A (k / u.ways) ++ [k % u.ways] := by
  rw [digT_append]
  simp [digT, prodW]
theorem rowM_split {l : List U0} {k j : Nat} (hj : j < l.length) : rowM l k (j + 1) = digT (l.take j) (k / prodW (l.drop j)) ++ (k / prodW (l.drop (j + 1)) % l[j].ways) :: List.replicate (l.length - (j + 1)) 0 := by
  unfold rowM
  rw [List.take_succ_eq_append_getElem hj, digT_snoc, Nat.div_div_eq_div_mul, drop_cons hj, Nat.mul_comm (prodW _)]
  simp
theorem rowM_get {l : List U0} {k j : Nat} (hj : j < l.length) : (rowM l k (j + 1))[j]? = some (k / prodW (l.drop (j + 1)) % l[j].ways) := by
  rw [rowM_split hj, List.getElem?_append_right (by rw [digT_len, List.length_take]; omega)]
  rw [digT_len, List.length_take, Nat.min_eq_left (Nat.le_of_lt hj), Nat.sub_self]
  rfl
/-- all from m on at their ends -/
def EndsFrom (l : List U0) (k m : Nat) : Prop := k % prodW (l.drop m) + 1 = prodW (l.drop m)
theorem ends_full (l : List U0) (k : Nat) : EndsFrom l k l.length := by
  unfold EndsFrom
  rw [List.drop_length]
  simp [prodW, Nat.mod_one]
theorem ends_step {l : List U0} {k j : Nat} (hj : j < l.length) (h : EndsFrom l k (j + 1)) (hd : k / prodW (l.drop (j + 1)) % l[j].ways + 1 = l[j].ways) : EndsFrom l k j := by
  unfold EndsFrom at *
  rw [drop_cons hj, Nat.mul_comm, Nat.mod_mul]
  obtain ⟨P, hP⟩ : ∃ P, prodW (l.drop (j + 1)) = P := ⟨_, rfl⟩
  obtain ⟨a, ha⟩ : ∃ a, k / P % l[j].ways = a := ⟨_, rfl⟩
  rw [hP] at h hd ⊢
  rw [ha] at hd ⊢
  rw [← hd, Nat.mul_add, Nat.mul_one]
  omega
theorem rowM_zero {l : List U0} {k j : Nat} (hj : j < l.length) : (rowM l k (j + 1)).set j 0 = rowM l k j := by
  rw [rowM_split hj]
  rw [List.set_append_right _ _ (by rw [digT_len, List.length_take]; omega), digT_len, List.length_take, Nat.min_eq_left (Nat.le_of_lt hj), Nat.sub_self]
  unfold rowM
  have e : l.length - j = (l.length - (j + 1)) + 1 := by omega
  rw [e, List.replicate_succ]
  rfl
theorem rowM_next {l : List U0} {k j : Nat} (hj : j < l.length) (h : EndsFrom l k (j + 1)) (hd : k / prodW (l.drop (j + 1)) % l[j].ways + 1 ≠ l[j].ways) : (rowM l k (j + 1)).set j (k / prodW (l.drop (j + 1)) % l[j].ways + 1) = digT l (k + 1) := by
  rw [rowM_split hj]
  rw [List.set_append_right _ _ (by rw [digT_len, List.length_take]; omega), digT_len, List.length_take, Nat.min_eq_left (Nat.le_of_lt hj), Nat.sub_self]
  unfold EndsFrom at h
  have hP := prodW_pos (l.drop (j + 1))
  have hW := l[j].ways_pos
  have hmod := Nat.mod_lt (k / prodW (l.drop (j + 1))) (show 0 < l[j].ways from hW)
  have hc : k + 1 = (k / prodW (l.drop (j + 1)) + 1) * prodW (l.drop (j + 1)) := by
    have := Nat.div_add_mod k (prodW (l.drop (j + 1)))
    rw [Nat.add_mul, Nat.one_mul, Nat.mul_comm]
    omega
  have hq : (k + 1) / prodW (l.drop (j + 1)) = k / prodW (l.drop (j + 1)) + 1 := by rw [hc, Nat.mul_div_cancel _ hP]
  have hdr : digT (l.drop (j + 1)) (k + 1) = List.replicate (l.length - (j + 1)) 0 := by
    rw [hc, digT_mul, List.length_drop]
  obtain ⟨P, hPe⟩ : ∃ P, prodW (l.drop (j + 1)) = P := ⟨_, rfl⟩
  obtain ⟨W, hWe⟩ : ∃ W, l[j].ways = W := ⟨_, rfl⟩
  obtain ⟨q, hqe⟩ : ∃ q, k / P = q := ⟨_, rfl⟩
  rw [hPe, hqe] at hq
  rw [hPe, hWe, hqe] at hd hmod
  have hq1 : q + 1 = W * (q / W) + (q % W + 1) := by
    have := Nat.div_add_mod q W
    omega
  have hlt : q % W + 1 < W := by omega
  have hW0 : 0 < W := by omega
  have hm : (q + 1) % W = q % W + 1 := by rw [hq1, Nat.mul_add_mod, Nat.mod_eq_of_lt hlt]
  have hv : (q + 1) / W = q / W := by rw [hq1, Nat.mul_add_div hW0, Nat.div_eq_of_lt hlt, Nat.add_zero]
  have hup : (k + 1) / prodW (l.drop j) = k / prodW (l.drop j) := by
    rw [drop_cons hj, hWe, hPe, Nat.mul_comm, ← Nat.div_div_eq_div_mul, ← Nat.div_div_eq_div_mul, hq, hqe, hv]
  have hrest : digT (l.drop j) (k + 1) = (q % W + 1) :: List.replicate (l.length - (j + 1)) 0 := by
    rw [List.drop_eq_getElem_cons hj]
    show ((k + 1) / prodW (l.drop (j + 1)) % l[j].ways) :: digT (l.drop (j + 1)) (k + 1) = _
    rw [hdr, hPe, hWe, hq, hm]
  rw [hPe, hWe, hqe]
  have hfull : digT l (k + 1) = digT (l.take j ++ l.drop j) (k + 1) := by rw [List.take_append_drop]
  rw [hfull, digT_append, hup, hrest]
  rfl
theorem last_digit0 {k A W P : Nat} (hA : 0 < A) (hW : 0 < W) (hP : 0 < P) (hk : k + 1 = A * (W * P)) : k / P % W + 1 = W := by
  obtain ⟨W', rfl⟩ : ∃ x, W = x + 1 := ⟨W - 1, by omega⟩
  obtain ⟨A', rfl⟩ : ∃ x, A = x + 1 := ⟨A - 1, by omega⟩
  obtain ⟨P', rfl⟩ : ∃ x, P = x + 1 := ⟨P - 1, by omega⟩
  have e2 : (A' + 1) * ((W' + 1) * (P' + 1)) = (P' + 1) * ((W' + 1) * A' + W') + (P' + 1) := by
    rw [← Nat.mul_add_one (P' + 1), Nat.add_assoc, ← Nat.mul_add_one (W' + 1) A', Nat.mul_comm (P' + 1), Nat.mul_comm (W' + 1) (A' + 1), Nat.mul_assoc]
  have e1 : k = (P' + 1) * ((W' + 1) * A' + W') + P' := by omega
  rw [e1, Nat.mul_add_div (by omega), Nat.div_eq_of_lt (show P' < P' + 1 by omega)]
  show ((W' + 1) * A' + W') % (W' + 1) + 1 = W' + 1
  rw [Nat.mul_add_mod, Nat.mod_eq_of_lt (by omega)]
/-- at the last number each file stands at its end -/
theorem last_digit {l : List U0} {k j : Nat} (hj : j < l.length) (hk : k + 1 = prodW l) : k / prodW (l.drop (j + 1)) % l[j].ways + 1 = l[j].ways := by
  have hl : prodW l = prodW (l.take j) * (l[j].ways * prodW (l.drop (j + 1))) := by rw [← drop_cons hj, ← prodW_append, List.take_append_drop]
  exact last_digit0 (prodW_pos _) l[j].ways_pos (prodW_pos _) (hk.trans hl)
end Go.Proofs.Ytmkjejngnahpeaa
/- Disk: going over what All tells, each file one of those told. -/
namespace Go.Proofs.Ytmkjejngnahpeaa
open Go Go.Maps Go.RowKit Go.Shelf
open Go.Proofs (encStr)
attribute [local go_sem] Oper.semAt_some

abbrev Of (fs : List F0) := { f : F0 // f ∈ fs }
def encOf (fs : List F0) (x : Of fs) : Array Value := #[fileV x.1]
set_option maxRecDepth 100000 in
set_option maxHeartbeats 1000000 in
theorem toldIn (F : Fence) (n : Nat) (h7 : F.fn 161) (hro : F.round = none) (hn : 1 ≤ n) (l vb : Nat) (w : World) (fs : List F0) (hsq : SeqAt w vb fs) (hfs : fs.length ≤ 1000000) (J Jx : Nat → World → Prop) (W : World) (hW : Below w.heap.size w W)
    (hJ : AbidesFrom W.heap.size J)
    (hY : ∀ j (hj : j < fs.length) W1, J j W1 → YieldAt F (n - 1) Try.prog l #[fileV fs[j]] W1 fun e W' =>
      (e = .returned (.bool true) ∧ J (j + 1) W' ∧ Below w.heap.size W1 W') ∨ (e = .returned (.bool false) ∧ Jx (j + 1) W')) (h0 : J 0 W) :
    CallsIn F n Try.prog 161 #[.func (.yield l) #[] #[], .pointer (some ⟨vb, 0, none⟩)] W fun e W' => (∃ v, e = .returned v) ∧ (J fs.length W' ∨ ∃ j, Jx j W') := by
  obtain ⟨v, hv, hrow⟩ := hsq
  obtain ⟨oa, c, rfl, hnc⟩ := hrow.shape
  obtain ⟨N, hN⟩ : ∃ N, fs.length = N := ⟨_, rfl⟩
  rw [hN] at hv hrow hnc hfs
  have cv : W.cell? ⟨vb, 0, none⟩ = some (.slice oa N c) := cell_of ((hW.block vb (Array.getElem?_eq_some_iff.1 hv).1).trans hv) rfl
  have HR := Lib.hid hrow
  have HN := Lib.hid hN
  have HY := Lib.hid hY
  have HJ := Lib.hid hJ
  have HW := Lib.hid hW
  clear hv hrow hN hY hJ hW
  refine callsIn_of_wp Try.func161 rfl h7 ?_ hro
  simp only [Try.ntmps161, List.size_toArray, List.length_cons, List.length_nil, Nat.reduceAdd, Nat.reduceSub, Array.replicate_succ, Array.replicate_zero, List.push_toArray, List.append_toArray, List.nil_append, List.cons_append]
  gi_wp2
  gi_loopw [7] (fun i wr => ∃ j : Nat, j ≤ N ∧ i = .int .i64 j ∧ J j wr ∧ Below w.heap.size w wr ∧ W.heap.size ≤ wr.heap.size) (fun i wr => N - (intOf i).toNat)
  case atStart => exact ⟨0, Nat.zero_le _, rfl, h0, HW.out, Nat.le_refl _⟩
  case round =>
    obtain ⟨j, hj, rfl, hJs, hbw, hWr⟩ := hrel
    by_cases hlt : j < N
    · have hjf : j < fs.length := by rw [HN.out]; exact hlt
      have hrw := HR.out.kept (fun k hk => hbw.block k (HR.out.lt k hk))
      obtain ⟨g, off, rfl⟩ := hrw.addr (by omega)
      obtain ⟨x, hx⟩ : ∃ x, fs[j] = x := ⟨_, rfl⟩
      have hcell : ∀ i, i < 5 → ∀ u, (fileCells x)[i]? = some u → wr.cell? ⟨g, off + (j * 5 + i), none⟩ = some u := fun i hi u hu => by
        have := hrw.cells (g := g) (off := off) rfl (j * 5 + i) u (by rw [filesCells_get hjf hi, hx, hu])
        simpa [Go.WideShapes.add_plain] using this
      have k0 : wr.cell? ⟨g, off + j * 5, none⟩ = some (encStr x.name) := hcell 0 (by omega) _ rfl
      have k1 : wr.cell? ⟨g, off + j * 5 + 1, none⟩ = some (.int .i64 x.bytes.length) := hcell 1 (by omega) _ rfl
      have k2 : wr.cell? ⟨g, off + j * 5 + 2, none⟩ = some (.int .i64 x.lasts) := hcell 2 (by omega) _ rfl
      have k3 : wr.cell? ⟨g, off + j * 5 + 3, none⟩ = some (.bool x.there) := hcell 3 (by omega) _ rfl
      have k4 : wr.cell? ⟨g, off + j * 5 + 4, none⟩ = some (.bool x.named) := hcell 4 (by omega) _ rfl
      obtain ⟨a0, ha0⟩ : ∃ a : ByteArray, encStr x.name = .string a := ⟨_, rfl⟩
      obtain ⟨a1, ha1⟩ : ∃ a : Int, (x.bytes.length : Int) = a := ⟨_, rfl⟩
      obtain ⟨a2, ha2⟩ : ∃ a : Int, (x.lasts : Int) = a := ⟨_, rfl⟩
      obtain ⟨a3, ha3⟩ : ∃ a, x.there = a := ⟨_, rfl⟩
      obtain ⟨a4, ha4⟩ : ∃ a, x.named = a := ⟨_, rfl⟩
      have HV : Hid (fileV x = .agg #[.string a0, .int .i64 a1, .int .i64 a2, .bool a3, .bool a4]) := Lib.hid (by unfold fileV; rw [ha0, ha1, ha2, ha3, ha4])
      rw [ha0] at k0; rw [ha1] at k1; rw [ha2] at k2; rw [ha3] at k3; rw [ha4] at k4
      have HX := Lib.hid hx
      have HJS := Lib.hid hJs
      have HBW := Lib.hid hbw
      obtain ⟨w2, hw2⟩ : ∃ w2 : World, w2 = wr.alloc (.cells #[.string a0, .int .i64 a1, .int .i64 a2, .bool a3, .bool a4] 78) := ⟨_, rfl⟩
      have hg2 : wr.grownBy w2 none := by rw [hw2]; exact World.grownBy_alloc _ _ _
      have hJ2 : J j w2 := HJ.out j wr w2 none hJs hg2 (fun r e => by cases e)
      obtain ⟨fn, tmps, assign, body, hy, hR⟩ := HY.out j hjf w2 hJ2
      rw [hx, HV.out] at hy
      have HRD := Lib.hid hR
      have HB2 : Hid (Below w.heap.size w w2 ∧ W.heap.size ≤ w2.heap.size) := Lib.hid ⟨hbw.trans ((below_grown hg2).mono hbw.size), Nat.le_trans hWr hg2.size⟩
      clear hcell hrw hx hJs hbw ha0 ha1 ha2 ha3 ha4 hJ2 hg2 hR HJS
      subst hw2
      gi_wp2
      refine HRD.out.mono ?_
      rintro e W3 (⟨rfl, hJ3, hk3⟩ | ⟨rfl, hJx3⟩)
      · have HJ3 : Hid (J (j + 1) W3) := Lib.hid hJ3
        have HB3 : Hid (Below w.heap.size w W3 ∧ W.heap.size ≤ W3.heap.size) := Lib.hid ⟨HB2.out.1.trans hk3, Nat.le_trans HB2.out.2 hk3.size⟩
        clear hJ3 hk3
        gi_wp2
        exact ⟨⟨j + 1, by omega, by simp, HJ3.out, HB3.out.1, HB3.out.2⟩, by simp [intOf]; omega⟩
      · have HX3 : Hid (Jx (j + 1) W3) := Lib.hid hJx3
        clear hJx3
        gi_wp2
        refine bodyPost_ret (results_none rfl _ _ _) rfl ?_
        exact ⟨⟨_, rfl⟩, .inr ⟨j + 1, HX3.out⟩⟩
    · obtain rfl : j = N := by omega
      have HE : Hid (J fs.length wr) := Lib.hid (by rw [HN.out]; exact hJs)
      clear hJs
      gi_wp2
      go_end0
      exact ⟨⟨_, rfl⟩, .inl HE.out⟩
/-- **going over what All tells** -/
theorem told_stops (F : Fence) (n : Nat) (h7 : F.fn 161) (hro : F.round = none) (hn : 1 ≤ n) (vb : Nat) (w : World) (fs : List F0) (hsq : SeqAt w vb fs) (hfs : fs.length ≤ 1000000) :
    SeqStopsK F n Try.prog 161 #[.pointer (some ⟨vb, 0, none⟩)] (encOf fs) (Below w.heap.size) (fun ys => ys.map (·.1) = fs) (fun _ => True) fs.length w := fun l J Jx W hW hJ _ hY h0 => by
  have hlen : fs.attach.length = fs.length := List.length_attach
  refine (toldIn F n h7 hro hn l vb w fs hsq hfs (fun j W => J (fs.attach.take j) W) (fun j W => Jx (fs.attach.take j) W) W hW (fun s A B row h hg hr => hJ _ A B row h hg hr) (fun j hj W1 h1 => ?_) (by simpa using h0)).mono ?_
  · have hj' : j < fs.attach.length := by rw [hlen]; exact hj
    have hx : (fs.attach[j]).1 = fs[j] := by simp
    have h2 := hY (fs.attach.take j) (fs.attach[j]) W1 h1 (by rw [List.length_take]; omega)
    rw [← List.take_succ_eq_append_getElem hj'] at h2
    have e : encOf fs fs.attach[j] = #[fileV fs[j]] := by unfold encOf; rw [hx]
    rw [e] at h2
    exact h2
  · rintro e W' ⟨he, h | ⟨j, h⟩⟩
    · refine ⟨he, .inl ⟨fs.attach, by simp, ?_⟩⟩
      rwa [← hlen, List.take_length] at h
    · exact ⟨he, .inr ⟨_, trivial, h⟩⟩
end Go.Proofs.Ytmkjejngnahpeaa
/- stops: is there a disk; a range over a function whose variable is boxed. -/
namespace Go.Proofs.Ytmkjejngnahpeaa
open Go Go.Maps Go.RowKit Go.Shelf

/-- all below n stands as it stood, but for one block -/
abbrev But (b n : Nat) (w w' : World) : Prop := Only (fun k => k = b ∨ n ≤ k) w w'
theorem But.join {b n : Nat} {A B C : World} (h : But b n A B) (k : But b n B C) : But b n A C := Only.trans h k (fun _ _ h => h)
theorem But.of {b n : Nat} {A B : World} (h : Below A.heap.size A B) : But b n A B := Only.of_below h (Nat.le_refl _) _
theorem But.put {b n : Nat} {w : World} (hn : n ≤ w.heap.size) (W : World) (l : Nat) (o o' : Obj) (hl : w.heap.size ≤ l) (_ : W.heap[l]? = some o) (_ : o.isCells = false) (_ : o.isWalk = false) : But b n W (W.putObj l o') :=
  Only.of_grown (grownBy_putObj' W l o') (fun k e => by cases e; exact .inr (by omega))
theorem keepsFrom_below2 {B : Nat} {W W' : World} (h : Below W.heap.size W W') : KeepsFrom B W W' := ⟨h.size, fun k _ _ hk _ => (h.block k (Array.getElem?_eq_some_iff.1 hk).1).trans hk⟩
/-- **A RANGE OVER A FUNCTION WHOSE VARIABLE IS BOXED ANEW IN EACH ROUND** -/
theorem wpIn_rangeFunc_fresh {F : Fence} {n : Nat} {P : Program} {α : Type} {g : Operand} {ps : Array Tmp} {assign body : Code} {Q : Exit → Act → World → Prop} {a : Act} {w : World}
    (hro : F.round = none) (h1 : 1 ≤ n) {gf : Nat} {lb : Array Value} (hg : a.eval g = .func (.func gf) #[] lb) (hFg : F.fn gf) (eg : ∀ args w, (callFunc gf args).run P w = .ok (.enter gf args) w)
    {encs : α → Array Value} {Kp : World → World → Prop} {S Sp : List α → Prop} {N : Nat} {w0 : World} (hseq : SeqStopsK F (n - 1) P gf lb encs Kp S Sp N w0)
    (hKt : ∀ {A B C : World}, Kp A B → Kp B C → Kp A C) (hKb : ∀ (W : World) (l : Nat) (o o' : Obj), w.heap.size ≤ l → W.heap[l]? = some o → o.isCells = false → o.isWalk = false → Kp W (W.putObj l o')) (hKa : ∀ (W : World) (o : Obj), w.heap.size ≤ W.heap.size → Kp W (W.alloc o)) (hb0 : Below w0.heap.size w0 w) (hps : ∀ x, (encs x).size = ps.size)
    (I : List α → World → Prop) (Ix : Code → List α → World → Prop) (hI : OwnFrom w.heap.size I) (hIx : ∀ c, OwnFrom w.heap.size (Ix c)) (h0 : I [] w) (hsz : ∀ pre W, I pre W → w.heap.size ≤ W.heap.size)
    (t : TypeId) (val : α → Array Value) (A : α → Nat → Act)
    (hassign : ∀ (l : Nat) (x : α) (W : World) (K : Act → World → Prop) (B : Nat), B = W.heap.size → K (A x B) (W.alloc (.cells (val x) t)) →
      assign.wpIn (F.inRound l) (n - 1 - 1) P (Exit.then K (fun _ _ _ => False)) { tmps := (ps.zip (encs x)).foldl (fun t (p, v) => t.setIfInBounds p v) a.tmps, defers := [] } W)
    (hbody : ∀ (l : Nat) (pre : List α) (x : α) (B : Nat) (W : World), w.heap.size ≤ l → (∃ r, W.heap[l]? = some (.loop r)) → I pre W → w.heap.size ≤ B → W.heap[B]? = some (.cells (val x) t (0, 0)) → pre.length < N → body.wpIn (F.inRound l) (n - 1 - 1) P (ownPostG w.heap.size Kp I Ix (pre ++ [x]) W) (A x B) W)
    (hdone : ∀ (D : Nat) (xs : List α) (W : World), w.heap.size ≤ D → S xs → I xs W → W.heap[D]? = some (.deferred (some [])) → Q .normal { a with defers := { target := .collected D, args := #[] } :: a.defers } W)
    (hstop : ∀ (D : Nat) (c : Code) (pre : List α) (W : World), w.heap.size ≤ D → Sp pre → Ix c pre W → W.heap[D]? = some (.deferred (some [])) → c.wpIn F n P Q { a with defers := { target := .collected D, args := #[] } :: a.defers } W) :
    (Code.rangeFunc g ps assign body).wpIn F n P Q a w :=
  wpIn_rangeFunc_ownH hro h1 hg hFg eg hseq hKt hKb hb0 hps I Ix hI hIx h0
    (fun x a' W => ∃ B, w.heap.size ≤ B ∧ W.heap[B]? = some (.cells (val x) t (0, 0)) ∧ a' = A x B)
    (fun x a' _ X Y row hs hg hr => by
      obtain ⟨B, e1, e2, e3⟩ := hs
      refine ⟨B, e1, (hg.block B (Array.getElem?_eq_some_iff.1 e2).1 (fun e => ?_)).trans e2, e3⟩
      obtain ⟨_, o, ho, hc⟩ := hr B e.symm
      rw [e2] at ho
      cases ho
      cases hc)
    (fun l pre x W K hi hK => hassign l x W K _ rfl (hK _ _ ((KeepsOthers.alloc _ _).from _) (hKa _ _ (hsz _ _ hi)) (hI.alloc _ hi) ⟨W.heap.size, hsz _ _ hi, alloc_cells _ _ _, rfl⟩))
    (fun l pre x a' W hl hr hi ⟨B, e1, e2, e3⟩ hlen => by subst e3; exact hbody l pre x B W hl hr hi e1 e2 hlen) hdone hstop
set_option maxRecDepth 100000 in
set_option maxHeartbeats 400000 in
theorem snone_b {w : World} {S : Nat → Prop} {q : Nat} {d : Dk} (h : DiskAt w S q d) (hfm : d.fates.length ≤ 1000000000) :
    Calls Try.prog 133 #[.pointer (some ⟨q, 0, none⟩)] w fun e w' => e = .returned (.bool false) ∧ Below w.heap.size w w' := by
  go_enter Try.func133, Try.ntmps133
  go_wp2_with fail
  refine (copy_b h hfm).mono ?_
  rintro e w1 ⟨qo, rfl, hd, hb⟩
  clear hd h
  go_wp2_with fail
  go_ret
  exact ⟨rfl, hb⟩
set_option maxRecDepth 100000 in
set_option maxHeartbeats 400000 in
theorem snone_nil {w : World} {pp : Option Addr} (h : IsNone w pp) : Calls Try.prog 133 #[.pointer pp] w fun e w' => e = .returned (.bool true) ∧ w' = w := by
  cases pp with
  | none =>
    go_enter Try.func133, Try.ntmps133
    go_wp2_with fail
    go_ret
    exact ⟨rfl, rfl⟩
  | some a =>
    go_enter Try.func133, Try.ntmps133
    go_wp2_with fail
    refine (copy_nil h).mono ?_
    rintro e w1 ⟨rfl, rfl⟩
    go_wp2_with fail
    go_ret
    exact ⟨rfl, rfl⟩
end Go.Proofs.Ytmkjejngnahpeaa
/- A row in a box that a range over a function appends to, of any elements. -/
namespace Go.Proofs.Ytmkjejngnahpeaa
open Go Go.Maps Go.RowKit Go.Shelf
attribute [local go_sem] Oper.semAt_some

theorem one_row (w : World) (e : TypeId) (size : Nat) (ys : List Value) (hy : ys.length = size) : rowAt (w.alloc (.cells ys.toArray e)) e size (.slice (some ⟨w.heap.size, 0, none⟩) 1 1) 1 ys :=
  ⟨by simp [hy], .inr ⟨_, 0, 1, _, _, rfl, alloc_cells _ _ _, Nat.le_refl _, by unfold maxLen; omega, by simp [hy], freeRow_zero _, by subst hy; simp⟩⟩
/-- one element is appended to a row, inside a fence -/
theorem wpListIn_append_one {F : Fence} {n : Nat} {w2 : World} {ops : Array Oper} {rest : List Oper} {o : Oper} {a : Act} {Q : Exit → Act → World → Prop} (hgd : o.guard = none) (s x : Operand) (t e : TypeId)
    (ho : o.op = .call { callee := .builtin .append, args := #[s, x], argTypes := #[t, t] }) {z : Value} {size bytes : Nat} (ht : Try.prog.underlying t = some (.slice e)) (hinfo : (Try.prog.info? e).map (fun i => (i.zero, i.size, i.bytes)) = some (some z, size, bytes)) (hzs : z.cells.size = size) (hby : bytes ≤ 1000)
    {oa : Option Addr} {m c : Nat} {xs : List Value} (h : rowAt w2 e size (.slice oa m c) m xs) (hm : m ≤ 1000000) (ys : List Value) (hy : ys.length = size) (h1 : ∀ v ∈ ys, v.oneCell' = true)
    (hs : a.eval s = .slice oa m c) (hx : a.eval x = .slice (some ⟨w2.heap.size, 0, none⟩) 1 1)
    (hK : ∀ oa3 c3 w3, Hid (rowAt w3 e size (.slice oa3 (m + 1) c3) (m + 1) (xs ++ ys)) → Hid ((w2.alloc (.cells ys.toArray e)).grownBy w3 (Value.slice oa m c).ownBlock) →
      Hid ((Value.slice oa3 (m + 1) c3).ownBlock = (Value.slice oa m c).ownBlock ∨ (Value.slice oa3 (m + 1) c3).ownBlock = some (w2.heap.size + 1)) → wpListIn F n Try.prog ops Q rest (a.put o.dst (.slice oa3 (m + 1) c3)) w3) :
    wpListIn F n Try.prog ops Q (o :: rest) a (w2.alloc (.cells ys.toArray e)) := by
  refine wpListIn_plain hgd fun K hK' => ?_
  obtain ⟨i, hi, hz, hsz, hbi⟩ := info_parts hinfo
  obtain ⟨v', w3, hrun, r1, r2, r3, r4⟩ := run_append_at (P := Try.prog) (w2.alloc (.cells ys.toArray e)) t t o.type e i z size bytes ht hi hz hsz hbi hzs _ m xs (h.kept (fun k hk => Below.heap_alloc _ _ k (h.lt k hk))) _ 1 _ (Src.of_row ht (one_row w2 e size ys hy) h1) (by unfold maxLen; omega) (by
    have h2 : (m + 1) * bytes ≤ (m + 1) * 1000 := Nat.mul_le_mul_left _ hby
    omega)
  obtain ⟨oa3, c3, rfl, _⟩ := r1.shape
  unfold Oper.wpIn
  refine ⟨?_, ?_⟩
  · simp [Oper.about, ho, resolve, Target.leads, Sem.run_pure]
  · rw [Oper.semAt_plain F _ _ (by rw [ho]; intro c hc'; cases hc')]
    simp [execOp, ho, resolve, invoke, builtin, hs, hx, hrun, Result.andThen]
    exact hK' _ _ (hK oa3 c3 w3 (Lib.hid r1) (Lib.hid r2) (Lib.hid (by simpa using r3)))
/-- block b holds a row that lies in blocks from lo on; below b all is as in w -/
structure BoxRow (e t : TypeId) (size b lo : Nat) (w W : World) (m : Nat) (xs : List Value) : Prop where
  box : ∃ oa c, W.heap[b]? = some (.cells #[.slice oa m c] t (0, 0)) ∧ rowAt W e size (.slice oa m c) m xs ∧ ∀ k, (Value.slice oa m c).ownBlock = some k → lo ≤ k
  below : Below b w W
  blt : b < lo
  low : lo ≤ W.heap.size
section
variable {e t : TypeId} {size b lo m : Nat} {w W : World} {xs : List Value}
theorem BoxRow.lt (h : BoxRow e t size b lo w W m xs) : b < W.heap.size := Nat.lt_of_lt_of_le h.blt h.low
theorem BoxRow.start (hb : W.heap[b]? = some (.cells #[.slice none 0 0] t (0, 0))) (hw : Below b w W) (hbl : b < lo) (hlo : lo ≤ W.heap.size) : BoxRow e t size b lo w W 0 [] :=
  ⟨⟨none, 0, hb, ⟨by simp, .inl ⟨rfl, rfl⟩⟩, fun k hk => by simp [Value.ownBlock] at hk⟩, hw, hbl, hlo⟩
theorem BoxRow.kept {W' : World} (h : BoxRow e t size b lo w W m xs) (hb : Below W.heap.size W W') : BoxRow e t size b lo w W' m xs := by
  obtain ⟨oa, c, h1, h2, h3⟩ := h.box
  exact ⟨⟨oa, c, (hb.block _ h.lt).trans h1, h2.kept (fun k hk => hb.block k (h2.lt k hk)), h3⟩, h.below.trans (hb.mono (Nat.le_of_lt h.lt)), h.blt, Nat.le_trans h.low hb.size⟩
theorem BoxRow.grown {W' : World} {row : Option Nat} (h : BoxRow e t size b lo w W m xs) (hg : W.grownBy W' row) (hr : ∀ r, row = some r → lo ≤ r ∧ ∃ o : Obj, W.heap[r]? = some o ∧ o.isCells = false) : BoxRow e t size b lo w W' m xs := by
  obtain ⟨oa, c, h1, h2, h3⟩ := h.box
  have hbl := h.blt
  refine ⟨⟨oa, c, (hg.block _ h.lt (fun e => ?_)).trans h1, h2.kept (fun k hk => hg.block k (h2.lt k hk) (fun e => ?_)), h3⟩, h.below.grown hg (Nat.le_of_lt h.lt) (fun k e => by have := (hr k e).1; omega), hbl, Nat.le_trans h.low hg.size⟩
  · have := (hr _ e.symm).1
    omega
  · obtain ⟨_, o, ho, hc⟩ := hr k e.symm
    rcases h2.2 with ⟨hn, _⟩ | ⟨g, off, cap, cur, fr, hv, hgg, _⟩
    · rw [hn] at hk
      simp [Value.ownBlock] at hk
    · rw [hv] at hk
      simp only [Value.ownBlock, Option.some.injEq] at hk
      subst hk
      rw [hgg] at ho
      cases ho
      cases hc
/-- the box stands as it stood, while its row grows -/
theorem BoxRow.still {w3 : World} {oa : Option Addr} {c : Nat} {o : Obj} (h : BoxRow e t size b lo w W m xs) (hbx : W.heap[b]? = some (.cells #[.slice oa m c] t (0, 0)))
    (hown : ∀ k, (Value.slice oa m c).ownBlock = some k → lo ≤ k) (hg : (W.alloc o).grownBy w3 (Value.slice oa m c).ownBlock) : w3.heap[b]? = some (.cells #[.slice oa m c] t (0, 0)) :=
  (hg.block _ (by have := h.lt; simp; omega) (fun e => by have := hown _ e.symm; have := h.blt; omega)).trans ((Below.heap_alloc _ _ _ h.lt).trans hbx)
/-- one element more -/
theorem BoxRow.step {w3 : World} {ys : List Value} {oa oa3 : Option Addr} {c c3 : Nat} {o : Obj} (h : BoxRow e t size b lo w W m xs) (hbx : W.heap[b]? = some (.cells #[.slice oa m c] t (0, 0)))
    (hown : ∀ k, (Value.slice oa m c).ownBlock = some k → lo ≤ k)
    (hr : rowAt w3 e size (.slice oa3 (m + 1) c3) (m + 1) (xs ++ ys)) (hg : (W.alloc o).grownBy w3 (Value.slice oa m c).ownBlock)
    (hw : (Value.slice oa3 (m + 1) c3).ownBlock = (Value.slice oa m c).ownBlock ∨ (Value.slice oa3 (m + 1) c3).ownBlock = some (W.heap.size + 1)) :
    BoxRow e t size b lo w (w3.setCell ⟨b, 0, none⟩ (.slice oa3 (m + 1) c3)) (m + 1) (xs ++ ys) := by
  have hsz := h.lt
  have hbl := h.blt
  have hlw := h.low
  have hnew : ∀ k, (Value.slice oa3 (m + 1) c3).ownBlock = some k → lo ≤ k := fun k hk => by
    rcases hw with h1 | h1
    · exact hown k (by rw [← h1]; exact hk)
    · rw [hk] at h1
      simp only [Option.some.injEq] at h1
      omega
  have hb3 := h.still hbx hown hg
  refine ⟨⟨oa3, c3, heap_setCell_here _ hb3, hr.kept (fun k hk => Below.heap_setCell _ _ _ _ (fun e => by have := hnew k hk; dsimp only at e; omega)), hnew⟩, ?_, hbl, ?_⟩
  · exact ((h.below.alloc (by omega) o).grown hg (by simp; omega) (fun k e => by have := hown k e; omega)).setCell (p := ⟨b, 0, none⟩) (Nat.le_refl _) _
  · have h1 := hg.size
    have h2 := (only_setCell (fun _ => True) w3 b 0 (.slice oa3 (m + 1) c3) trivial).size
    simp at h1
    omega
theorem boxRow_but {w3 : World} {oa : Option Addr} {c : Nat} {o : Obj}
    (hown : ∀ k, (Value.slice oa m c).ownBlock = some k → lo ≤ k) (hg : (W.alloc o).grownBy w3 (Value.slice oa m c).ownBlock) (v : Value) :
    But b lo W (w3.setCell ⟨b, 0, none⟩ v) :=
  ((But.of ((Below.refl _ W).alloc (Nat.le_refl _) o)).join (Only.of_grown hg (fun k e => .inr (hown k e)))).join (only_setCell _ _ _ _ _ (.inl rfl))
theorem boxRow_keeps {w3 : World} {oa : Option Addr} {c B : Nat} {o : Obj} (hr : rowAt W e size (.slice oa m c) m xs)
    (hg : (W.alloc o).grownBy w3 (Value.slice oa m c).ownBlock) (v : Value) : KeepsFrom B W (w3.setCell ⟨b, 0, none⟩ v) := by
  have h1 : KeepsFrom B W w3 := ⟨by have := hg.size; simp at this; omega, fun k o' _ hk ho => by
    have hlt := (Array.getElem?_eq_some_iff.1 hk).1
    refine (hg.block k (by simp; omega) (fun e => ?_)).trans ((Below.heap_alloc _ _ _ hlt).trans hk)
    rcases hr.2 with ⟨hn, _⟩ | ⟨g, off, cap, cur, fr, hv, hgg, _⟩
    · rw [hn] at e
      simp [Value.ownBlock] at e
    · rw [hv] at e
      simp only [Value.ownBlock, Option.some.injEq] at e
      subst e
      rw [hgg] at hk
      cases hk
      cases ho⟩
  exact h1.trans ((KeepsOthers.setCell _ _ _).from _)
end
end Go.Proofs.Ytmkjejngnahpeaa
