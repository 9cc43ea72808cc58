/- The texts Kj in one. -/
import Derived.Test.YtmkjejngnahpeaaC5
import Derived.Test.YtmkjejngnahpeaaC1
/- stops: each way is told once, and no two leave the same: plainly. -/
namespace Go.Proofs.Ytmkjejngnahpeaa
open Go

theorem ofStep_one (out : List Nat) (u : U0) (x : Nat) : ofStep out u x = out ++ ofOne u x := by
  unfold ofStep ofOne
  split
  · split
    · rfl
    · split <;> simp
  · split <;> simp
def ofN : List U0 → List Nat → List Nat
  | u :: l, x :: r => ofOne u x ++ ofN l r
  | _, _ => []
theorem ofT_n : ∀ (l : List U0) (ws out : List Nat), ofT l ws out = out ++ ofN l ws
  | [], ws, out => by simp [ofT, ofN]
  | u :: l, [], out => by simp [ofT, ofN]
  | u :: l, x :: r, out => by
    show ofT l r (ofStep out u x) = _
    rw [ofT_n l r, ofStep_one, ofN, List.append_assoc]
/-- each file's way is one of its ways -/
def Valid : List U0 → List Nat → Prop
  | [], [] => True
  | u :: l, x :: r => x < u.ways ∧ Valid l r
  | _, _ => False
theorem valid_dig : ∀ (l : List U0) (k : Nat), Valid l (digT l k)
  | [], _ => trivial
  | u :: r, k => ⟨Nat.mod_lt _ u.ways_pos, valid_dig r k⟩
theorem plain_step (u : U0) (x : Nat) (o w : List Nat) (r : List Int) (hx : x < u.ways) : plainStep ⟨o, w, ints (ofOne u x) ++ r⟩ u = ⟨o ++ ofOne u x, w ++ [x], r⟩ := by
  obtain ⟨b, m⟩ := u
  cases b
  · by_cases hm : 0 < m
    · have hlt : x < m + 1 := by simpa [U0.ways] using hx
      simp only [plainStep, ofOne, hm, if_true]
      simp
      rw [nextP_ints _ _ r hlt]
      exact ⟨rfl, rfl⟩
    · have h0 : x = 0 := by simp [U0.ways] at hx; omega
      subst h0
      simp [plainStep, ofOne, hm, ints]
  · by_cases h0 : x = 0
    · subst h0
      simp only [plainStep, ofOne, if_true, nextP_ints 2 0 r (by omega)]
    · by_cases hm : 0 < m
      · have hlt : x - 1 < m + 1 := by simp [U0.ways] at hx; omega
        have e1 : ints [1, x - 1] ++ r = ints [1] ++ (ints [x - 1] ++ r) := rfl
        simp only [plainStep, ofOne, h0, hm, if_true, if_false, e1, nextP_ints 2 1 _ (by omega), nextP_ints _ _ r hlt, Nat.one_ne_zero]
        have e2 : 1 + (x - 1) = x := by omega
        rw [e2]
        simp
      · have h1 : x = 1 := by simp [U0.ways] at hx; omega
        subst h1
        simp only [plainStep, ofOne, hm, if_true, if_false, nextP_ints 2 1 _ (by omega), Nat.one_ne_zero]
theorem plain_all : ∀ (l : List U0) (ws o w : List Nat) (r : List Int), Valid l ws → l.foldl plainStep ⟨o, w, ints (ofN l ws) ++ r⟩ = ⟨o ++ ofN l ws, w ++ ws, r⟩
  | [], [], o, w, r, _ => by simp [ofN, ints]
  | u :: l, x :: t, o, w, r, h => by
    rw [List.foldl_cons, ofN, ints_append, List.append_assoc, plain_step u x o w _ h.1, plain_all l t _ _ r h.2]
    simp
theorem picksOf_eq (us : List U0) (j : Nat) : picksOf us j = ints (ofN us (digT us j)) := by
  unfold picksOf
  rw [ofT_n]
  rfl
/-- the plain stop of the j-th way is its own; its ways are its digits -/
theorem plain_way (us : List U0) (j : Nat) : plainT us (picksOf us j) = ⟨ofN us (digT us j), digT us j, []⟩ := by
  have := plain_all us (digT us j) [] [] [] (valid_dig us j)
  rw [List.append_nil, ← picksOf_eq] at this
  simpa [plainT] using this
theorem numT_dig : ∀ (l : List U0) (k n : Nat), numT l (digT l k) n = n * prodW l + k % prodW l
  | [], k, n => by simp [numT, prodW, Nat.mod_one]
  | u :: r, k, n => by
    show numT r (digT r k) (n * u.ways + k / prodW r % u.ways) = n * (u.ways * prodW r) + k % (u.ways * prodW r)
    rw [numT_dig r k, Nat.mul_comm u.ways, Nat.mod_mul, Nat.add_mul, Nat.mul_comm (prodW r) u.ways, Nat.mul_assoc, Nat.mul_comm (prodW r) (k / prodW r % u.ways)]
    omega
theorem countT_prod : ∀ (l : List U0) (a c : Nat), l.foldl countStep (some a) = some c → c = a * prodW l
  | [], a, c, h => by
    simp only [List.foldl_nil, Option.some.injEq] at h
    simp [prodW, h]
  | u :: r, a, c, h => by
    rw [List.foldl_cons] at h
    unfold countStep at h
    rw [Option.bind_some] at h
    split at h
    · rw [show r.foldl (fun a u => a.bind fun n => if most62 / u.ways < n then none else some (n * u.ways)) none = none from count_none r] at h
      cases h
    · have := countT_prod r _ c h
      rw [this, prodW, Nat.mul_assoc]
/-- the number of the j-th way -/
theorem num_way {d : Dk} {c : Nat} (hc : countT (unsT d.files) = some c) {j : Nat} (hj : j < prodW (unsT d.files)) : numV d (picksOf (unsT d.files) j) = ((j : Int), 0) := by
  unfold numV
  rw [hc, plain_way]
  simp only [numT_dig, Nat.zero_mul, Nat.zero_add, Nat.mod_eq_of_lt hj]
/-- what is left of each file -/
def leftD : List F0 → List Nat → List F0
  | [], _ => []
  | w :: l, ws => if unsOf w = [] then cutF w 0 :: leftD l ws else match ws with
    | [] => []
    | x :: r => (if (unsF w).name = true ∧ x = 0 then [] else [cutF w (if (unsF w).name = true then x - 1 else x)]) ++ leftD l r
theorem leftD_sure {w : F0} {l : List F0} {ws : List Nat} (h : unsOf w = []) : leftD (w :: l) ws = cutF w 0 :: leftD l ws := by
  show (if unsOf w = [] then _ else _) = _
  rw [if_pos h]
theorem leftD_uns {w : F0} {l : List F0} {x : Nat} {r : List Nat} (h : ¬ unsOf w = []) : leftD (w :: l) (x :: r) = (if (unsF w).name = true ∧ x = 0 then [] else [cutF w (if (unsF w).name = true then x - 1 else x)]) ++ leftD l r := by
  show (if unsOf w = [] then _ else _) = _
  rw [if_neg h]
theorem unsOf_sure {w : F0} (h : unsOf w = []) : (unsF w).name = false ∧ (unsF w).more = 0 := by
  unfold unsOf at h
  split at h
  · cases h
  · rename_i h2
    simp only [Bool.or_eq_true, decide_eq_true_eq, not_or, Bool.not_eq_true] at h2
    exact ⟨h2.1, by omega⟩
theorem unsOf_one {w : F0} (h : ¬ unsOf w = []) : unsOf w = [unsF w] := by
  unfold unsOf at h ⊢
  split
  · rfl
  · rename_i h2
    rw [if_neg h2] at h
    exact absurd rfl h
theorem left_dig : ∀ (l : List F0) (ws : List Nat) (R : List Int), Valid (unsT l) ws → (leftPairs l (ints (ofN (unsT l) ws) ++ R)).map (·.2) = leftD l ws
  | [], ws, R, _ => rfl
  | w :: l, ws, R, hv => by
    have e : unsT (w :: l) = unsOf w ++ unsT l := rfl
    by_cases hs : unsOf w = []
    · rw [e, hs, List.nil_append] at hv ⊢
      obtain ⟨h1, h2⟩ := unsOf_sure hs
      rw [leftPairs, leftD_sure hs, keep_uns, h1, more_uns, h2, ← left_dig l ws R hv]
      simp
    · rw [e, unsOf_one hs] at hv ⊢
      cases ws with
      | nil => exact hv.elim
      | cons x r =>
        obtain ⟨hx, hv⟩ := hv
        have hof : ints (ofN ([unsF w] ++ unsT l) (x :: r)) ++ R = ints (ofOne (unsF w) x) ++ (ints (ofN (unsT l) r) ++ R) := by
          show ints (ofOne (unsF w) x ++ ofN (unsT l) r) ++ R = _
          rw [ints_append, List.append_assoc]
        obtain ⟨k1, k2⟩ := keep_ints w x (ints (ofN (unsT l) r) ++ R) hx
        rw [hof, leftPairs, leftD_uns hs]
        by_cases h0 : (unsF w).name = true ∧ x = 0
        · rw [k1 h0, if_pos rfl, if_pos h0, List.nil_append]
          exact left_dig l r R hv
        · obtain ⟨k3, k4⟩ := k2 h0
          rw [k3, if_neg (by simp), if_neg h0, k4, List.map_cons, left_dig l r R hv]
          rfl
theorem leftD_names : ∀ (l : List F0) (ws : List Nat), ∀ g ∈ leftD l ws, ∃ f ∈ l, g.name = f.name
  | [], _, g, hg => by cases hg
  | w :: l, ws, g, hg => by
    unfold leftD at hg
    split at hg
    · rcases List.mem_cons.1 hg with rfl | h
      · exact ⟨w, by simp, rfl⟩
      · obtain ⟨f, h1, h2⟩ := leftD_names l ws g h
        exact ⟨f, by simp [h1], h2⟩
    · split at hg
      · cases hg
      · rename_i x r
        rcases List.mem_append.1 hg with h | h
        · split at h
          · cases h
          · rw [List.mem_singleton] at h
            exact ⟨w, by simp, by rw [h]; rfl⟩
        · obtain ⟨f, h1, h2⟩ := leftD_names l r g h
          exact ⟨f, by simp [h1], h2⟩
theorem cutF_inj {w : F0} {a b : Nat} (h : cutF w a = cutF w b) : a = b := by
  have : (cutF w a).lasts = (cutF w b).lasts := by rw [h]
  have h2 : w.lasts + a = w.lasts + b := this
  omega
theorem left_inj : ∀ (l : List F0) (a b : List Nat), (l.map (·.name)).Nodup → Valid (unsT l) a → Valid (unsT l) b → leftD l a = leftD l b → a = b
  | [], a, b, _, ha, hb, _ => by
    cases a with
    | nil => cases b with
      | nil => rfl
      | cons _ _ => exact hb.elim
    | cons _ _ => exact ha.elim
  | w :: l, a, b, hn, ha, hb, h => by
    have e : unsT (w :: l) = unsOf w ++ unsT l := rfl
    rw [List.map_cons, List.nodup_cons] at hn
    by_cases hs : unsOf w = []
    · rw [e, hs, List.nil_append] at ha hb
      rw [leftD_sure hs, leftD_sure hs] at h
      exact left_inj l a b hn.2 ha hb (List.cons.inj h).2
    · rw [e, unsOf_one hs] at ha hb
      cases a with
      | nil => exact ha.elim
      | cons x r =>
        cases b with
        | nil => exact hb.elim
        | cons y t =>
          rw [leftD_uns hs, leftD_uns hs] at h
          have hne : ∀ (ws : List Nat) (k : Nat) (rest : List F0), leftD l ws = cutF w k :: rest → False := fun ws k rest he => by
            obtain ⟨f, h1, h2⟩ := leftD_names l ws (cutF w k) (by rw [he]; exact List.mem_cons_self ..)
            exact hn.1 (by rw [show w.name = f.name from h2]; exact List.mem_map_of_mem h1)
          by_cases hx : (unsF w).name = true ∧ x = 0
          · by_cases hy : (unsF w).name = true ∧ y = 0
            · rw [if_pos hx, if_pos hy] at h
              rw [hx.2, hy.2, left_inj l r t hn.2 ha.2 hb.2 h]
            · rw [if_pos hx, if_neg hy] at h
              exact (hne _ _ _ h).elim
          · by_cases hy : (unsF w).name = true ∧ y = 0
            · rw [if_neg hx, if_pos hy] at h
              exact (hne _ _ _ h.symm).elim
            · rw [if_neg hx, if_neg hy] at h
              obtain ⟨h1, h2⟩ := List.cons.inj h
              have h3 := cutF_inj h1
              have h4 := left_inj l r t hn.2 ha.2 hb.2 h2
              have h5 : x = y := by
                cases hnm : (unsF w).name
                · rw [hnm] at h3
                  simpa using h3
                · rw [hnm] at h3 hx hy
                  simp only [if_true, true_and] at h3 hx hy
                  omega
              rw [h5, h4]
/-- what the j-th way leaves -/
theorem crash_way (d : Dk) (j : Nat) : (d.crash (picksOf (unsT d.files) j)).files = leftD d.files (digT (unsT d.files) j) := by
  rw [crash_files, picksOf_eq]
  have := left_dig d.files (digT (unsT d.files) j) [] (valid_dig _ _)
  rwa [List.append_nil] at this
theorem dig_inj {l : List U0} {i j : Nat} (hi : i < prodW l) (hj : j < prodW l) (h : digT l i = digT l j) : i = j := by
  have h1 := numT_dig l i 0
  have h2 := numT_dig l j 0
  rw [h, Nat.mod_eq_of_lt hi] at h1
  rw [Nat.mod_eq_of_lt hj] at h2
  omega
/-- **no two ways leave the same** -/
theorem crash_ne {d : Dk} (hs : (d.files.map (·.name)).Pairwise (· < ·)) {i j : Nat} (hi : i < prodW (unsT d.files)) (hj : j < prodW (unsT d.files)) (h : (d.crash (picksOf (unsT d.files) i)).files = (d.crash (picksOf (unsT d.files) j)).files) : i = j := by
  rw [crash_way, crash_way] at h
  exact dig_inj hi hj (left_inj d.files _ _ (hs.imp (fun {a b} hab he => by rw [he] at hab; exact List.lt_irrefl _ hab)) (valid_dig _ _) (valid_dig _ _) h)
end Go.Proofs.Ytmkjejngnahpeaa
