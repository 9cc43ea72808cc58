/- The texts Kw, Kx in one. -/
import Derived.Test.YtmkjejngnahpeaaB0
import Derived.Test.YtmkjejngnahpeaaY3
import Derived.Test.YtmkjejngnahpeaaY5
/- The document's Next, plainly: the plain stop behind a plain one. -/
namespace Go.Proofs.Ytmkjejngnahpeaa
open Go

/-- the plain stop behind a plain one: the last pick that can be raised is raised, and those behind it fall away -/
def nextL : List Nat → List Nat → Option (List Nat)
  | p :: out, o :: of => match nextL out of with
    | some t => some (p :: t)
    | none => if p + 1 < o then some [p + 1] else none
  | _, _ => none
theorem nextL_append : ∀ (A A' B B' : List Nat), A.length = A'.length → nextL (A ++ B) (A' ++ B') = match nextL B B' with
    | some t => some (A ++ t)
    | none => nextL A A'
  | [], [], B, B', _ => by
    show nextL B B' = _
    cases nextL B B' <;> rfl
  | p :: A, o :: A', B, B', h => by
    have ih := nextL_append A A' B B' (by simpa using h)
    show (match nextL (A ++ B) (A' ++ B') with | some t => some (p :: t) | none => if p + 1 < o then some [p + 1] else none) = _
    rw [ih]
    cases hb : nextL B B' with
    | some t => rfl
    | none => rfl
/-- what each pick of one file's way is taken modulo -/
def ofsOne (u : U0) (x : Nat) : List Nat := if u.name = true then (if x = 0 then [2] else if 0 < u.more then [2, u.more + 1] else [2]) else if 0 < u.more then [u.more + 1] else []
def ofsN : List U0 → List Nat → List Nat
  | u :: l, x :: r => ofsOne u x ++ ofsN l r
  | _, _ => []
theorem ofsOne_len (u : U0) (x : Nat) : (ofOne u x).length = (ofsOne u x).length := by
  unfold ofOne ofsOne
  split
  · split
    · rfl
    · split <;> rfl
  · split <;> rfl
theorem ofsN_len : ∀ (l : List U0) (ws : List Nat), (ofN l ws).length = (ofsN l ws).length
  | [], ws => by simp [ofN, ofsN]
  | u :: l, [] => by simp [ofN, ofsN]
  | u :: l, x :: r => by
    rw [ofN, ofsN, List.length_append, List.length_append, ofsOne_len, ofsN_len l r]
/-- one file's next way -/
theorem next_one (u : U0) (x : Nat) (hx : x < u.ways) : if x + 1 < u.ways then ∃ t, nextL (ofOne u x) (ofsOne u x) = some t ∧ ∀ o w, plainStep ⟨o, w, ints t⟩ u = ⟨o ++ ofOne u (x + 1), w ++ [x + 1], []⟩ else nextL (ofOne u x) (ofsOne u x) = none := by
  obtain ⟨b, m⟩ := u
  cases b
  · by_cases hm : 0 < m
    · have hl : x < m + 1 := by simpa [U0.ways] using hx
      by_cases hy : x + 1 < (⟨false, m⟩ : U0).ways
      · rw [if_pos hy]
        have hy' : x + 1 < m + 1 := by simpa [U0.ways] using hy
        refine ⟨[x + 1], by simp [ofOne, ofsOne, hm, nextL]; omega, fun o w => ?_⟩
        have := plain_step ⟨false, m⟩ (x + 1) o w [] hy
        have e : ofOne ⟨false, m⟩ (x + 1) = [x + 1] := by simp [ofOne, hm]
        rw [e] at this ⊢
        simpa using this
      · rw [if_neg hy]
        have hy' : ¬ x + 1 < m + 1 := by simpa [U0.ways] using hy
        simp [ofOne, ofsOne, hm, nextL]
        omega
    · have hy : ¬ x + 1 < (⟨false, m⟩ : U0).ways := by simp [U0.ways] at hx ⊢; omega
      rw [if_neg hy]
      simp [ofOne, ofsOne, hm, nextL]
  · by_cases h0 : x = 0
    · subst h0
      have hy : 0 + 1 < (⟨true, m⟩ : U0).ways := by simp [U0.ways]
      rw [if_pos hy]
      refine ⟨[1], by simp [ofOne, ofsOne, nextL], fun o w => ?_⟩
      by_cases hm : 0 < m
      · have e1 : nextP 2 (ints [1]) = (1, []) := rfl
        simp only [plainStep, ofOne, hm, if_true, if_false, e1, nextP_nil, Nat.one_ne_zero, Nat.zero_add]
        simp
      · have e1 : nextP 2 (ints [1]) = (1, []) := rfl
        simp only [plainStep, ofOne, hm, if_true, if_false, e1, Nat.one_ne_zero, Nat.zero_add]
    · by_cases hm : 0 < m
      · by_cases hy : x + 1 < (⟨true, m⟩ : U0).ways
        · rw [if_pos hy]
          have hy' : x - 1 + 1 < m + 1 := by simp [U0.ways] at hy; omega
          have hx1 : x - 1 + 1 = x := by omega
          refine ⟨[1, x], ?_, fun o w => ?_⟩
          · have e1 : ofOne ⟨true, m⟩ x = [1, x - 1] := by simp [ofOne, h0, hm]
            have e2 : ofsOne ⟨true, m⟩ x = [2, m + 1] := by simp [ofsOne, h0, hm]
            rw [e1, e2]
            have hy2 : x < m + 1 := by omega
            simp only [nextL, hx1, if_pos hy2]
          · have := plain_step ⟨true, m⟩ (x + 1) o w [] hy
            have e : ofOne ⟨true, m⟩ (x + 1) = [1, x] := by simp [ofOne, hm]
            rw [e] at this ⊢
            simpa using this
        · rw [if_neg hy]
          have hy' : ¬ x - 1 + 1 < m + 1 := by simp [U0.ways] at hy; omega
          have e1 : ofOne ⟨true, m⟩ x = [1, x - 1] := by simp [ofOne, h0, hm]
          have e2 : ofsOne ⟨true, m⟩ x = [2, m + 1] := by simp [ofsOne, h0, hm]
          rw [e1, e2]
          simp only [nextL, if_neg hy']
          rfl
      · have hy : ¬ x + 1 < (⟨true, m⟩ : U0).ways := by simp [U0.ways] at hx ⊢; omega
        rw [if_neg hy]
        simp [ofOne, ofsOne, h0, hm, nextL]
theorem plain_zero : ∀ (l : List U0) (o w : List Nat), l.foldl plainStep ⟨o, w, []⟩ = ⟨o ++ ofN l (List.replicate l.length 0), w ++ List.replicate l.length 0, []⟩
  | [], o, w => by simp [ofN]
  | u :: l, o, w => by
    have e : plainStep ⟨o, w, []⟩ u = ⟨o ++ ofOne u 0, w ++ [0], []⟩ := by
      obtain ⟨b, m⟩ := u
      cases b
      · by_cases hm : 0 < m
        · simp [plainStep, ofOne, hm, nextP_nil]
        · simp [plainStep, ofOne, hm]
      · simp [plainStep, ofOne, nextP_nil]
    rw [List.foldl_cons, e, plain_zero l, List.length_cons, List.replicate_succ, ofN]
    simp
/-- **the next plain stop of the k-th way is that of the next one** -/
theorem next_dig : ∀ (us : List U0) (k : Nat), if k % prodW us + 1 = prodW us then nextL (ofN us (digT us k)) (ofsN us (digT us k)) = none else ∃ t, nextL (ofN us (digT us k)) (ofsN us (digT us k)) = some t ∧ ∀ o w, us.foldl plainStep ⟨o, w, ints t⟩ = ⟨o ++ ofN us (digT us (k + 1)), w ++ digT us (k + 1), []⟩
  | [], k => by
    simp [prodW, Nat.mod_one, ofN, nextL]
  | u :: r, k => by
    have ih := next_dig r k
    have hP := prodW_pos r
    have hW := u.ways_pos
    obtain ⟨P, hPe⟩ : ∃ P, prodW r = P := ⟨_, rfl⟩
    have hpw : prodW (u :: r) = u.ways * P := by rw [← hPe]; rfl
    have hdg : ∀ k, digT (u :: r) k = (k / P % u.ways) :: digT r k := fun k => by rw [← hPe]; rfl
    rw [hPe] at ih hP
    rw [hpw, hdg, hdg]
    have hxl : k / P % u.ways < u.ways := Nat.mod_lt _ hW
    have happ := nextL_append (ofOne u (k / P % u.ways)) (ofsOne u (k / P % u.ways)) (ofN r (digT r k)) (ofsN r (digT r k)) (ofsOne_len _ _)
    have hmod : k % (u.ways * P) = k % P + P * (k / P % u.ways) := by rw [Nat.mul_comm, Nat.mod_mul]
    rw [ofN, ofsN, happ, hmod]
    by_cases hend : k % P + 1 = P
    · rw [if_pos hend] at ih
      rw [ih]
      have hc : k + 1 = (k / P + 1) * P := by
        have := Nat.div_add_mod k P
        rw [Nat.add_mul, Nat.one_mul, Nat.mul_comm]
        omega
      have hq : (k + 1) / P = k / P + 1 := by rw [hc, Nat.mul_div_cancel _ hP]
      have hz : digT r (k + 1) = List.replicate r.length 0 := by rw [hc, ← hPe, digT_mul]
      have h1 := next_one u (k / P % u.ways) hxl
      obtain ⟨x, hx⟩ : ∃ x, k / P % u.ways = x := ⟨_, rfl⟩
      rw [hx] at h1 hxl ⊢
      by_cases hlt : x + 1 < u.ways
      · rw [if_pos hlt] at h1
        obtain ⟨t, h2, h3⟩ := h1
        have hne : ¬ k % P + P * x + 1 = u.ways * P := fun e => by
          have h4 : P * x + P = u.ways * P := by omega
          have h5 : (x + 1) * P = u.ways * P := by rw [Nat.add_mul, Nat.one_mul, Nat.mul_comm x P]; exact h4
          have := Nat.eq_of_mul_eq_mul_right hP h5
          omega
        rw [if_neg hne]
        refine ⟨t, h2, fun o w => ?_⟩
        have hm1 : (k / P + 1) % u.ways = x + 1 := by
          have := Nat.div_add_mod (k / P) u.ways
          rw [hx] at this
          rw [← this, Nat.add_assoc, Nat.mul_add_mod, Nat.mod_eq_of_lt hlt]
        rw [List.foldl_cons, h3, plain_zero, hq, hm1, hz, ofN]
        simp
      · rw [if_neg hlt] at h1
        have hxe : x + 1 = u.ways := by omega
        have he : k % P + P * x + 1 = u.ways * P := by
          rw [← hxe, Nat.add_mul, Nat.one_mul, Nat.mul_comm x P]
          omega
        rw [if_pos he]
        exact h1
    · rw [if_neg hend] at ih
      obtain ⟨t, h2, h3⟩ := ih
      rw [h2]
      have hkm := Nat.mod_lt k hP
      have hq : (k + 1) / P = k / P := by
        have h4 := Nat.div_add_mod k P
        have h8 : k % P + 1 < P := by omega
        rw [show k + 1 = P * (k / P) + (k % P + 1) by omega, Nat.mul_add_div hP, Nat.div_eq_of_lt h8, Nat.add_zero]
      have hne : ¬ k % P + P * (k / P % u.ways) + 1 = u.ways * P := fun e => by
        apply hend
        have h5 : (k % P + 1) % P = 0 := by
          have h6 : (k % P + 1 + P * (k / P % u.ways)) % P = 0 := by rw [show k % P + 1 + P * (k / P % u.ways) = u.ways * P by omega]; exact Nat.mul_mod_left _ _
          rwa [Nat.add_mul_mod_self_left] at h6
        by_cases h7 : k % P + 1 < P
        · rw [Nat.mod_eq_of_lt h7] at h5
          omega
        · omega
      rw [if_neg hne]
      refine ⟨_, rfl, fun o w => ?_⟩
      rw [List.foldl_cons, ints_append, plain_step u _ o w (ints t) hxl, h3, hq, ofN]
      simp
theorem ofsN_append : ∀ (A B : List U0) (a b : List Nat), a.length = A.length → ofsN (A ++ B) (a ++ b) = ofsN A a ++ ofsN B b
  | [], B, [], b, _ => rfl
  | u :: A, B, x :: a, b, h => by
    show ofsOne u x ++ ofsN (A ++ B) (a ++ b) = (ofsOne u x ++ ofsN A a) ++ ofsN B b
    rw [ofsN_append A B a b (by simpa using h), List.append_assoc]
theorem rc_of (ps : List Int) (s : RcS) (f : F0) (w : List Nat) : ∃ ws, ws.length = (unsOf f).length ∧ (unsOf f).foldl plainStep ⟨s.out, w, ps.drop s.out.length⟩ = ⟨(rcStep ps s f).out, w ++ ws, ps.drop (rcStep ps s f).out.length⟩ ∧ (rcStep ps s f).of = s.of ++ ofsN (unsOf f) ws := by
  have key : ∃ x, plainStep ⟨s.out, w, ps.drop s.out.length⟩ (unsF f) = ⟨(rcStep ps s f).out, w ++ [x], ps.drop (rcStep ps s f).out.length⟩ ∧ (rcStep ps s f).of = s.of ++ ofsOne (unsF f) x := by
    unfold plainStep rcStep rcName rcMore rcFile
    by_cases hn : (unsF f).name = true
    · simp only [hn, if_true, nextP_drop]
      by_cases h0 : pickAt ps s.out.length 2 = 0
      · exact ⟨0, by simp [h0], by simp [h0, ofsOne, hn]⟩
      · by_cases hm : 0 < (unsF f).more
        · refine ⟨1 + pickAt ps (s.out.length + 1) ((unsF f).more + 1), by simp [h0, hm], ?_⟩
          simp [h0, hm, ofsOne, hn]
        · exact ⟨1, by simp [h0, hm], by simp [h0, hm, ofsOne, hn]⟩
    · by_cases hm : 0 < (unsF f).more
      · exact ⟨pickAt ps s.out.length ((unsF f).more + 1), by simp [hn, hm, nextP_drop], by simp [hn, hm, ofsOne]⟩
      · exact ⟨0, by simp [hn, hm], by simp [hn, hm, ofsOne]⟩
  by_cases hs : unsOf f = []
  · rw [hs]
    have h2 : (unsF f).name = false ∧ ¬ 0 < (unsF f).more := by
      unfold unsOf at hs
      split at hs
      · cases hs
      · rename_i h
        simp only [Bool.or_eq_true, decide_eq_true_eq, not_or, Bool.not_eq_true] at h
        exact h
    have e : (rcStep ps s f).out = s.out ∧ (rcStep ps s f).of = s.of := by
      unfold rcStep rcName rcMore rcFile
      simp [h2.1, h2.2]
    rw [e.1, e.2]
    exact ⟨[], rfl, by simp, by simp [ofsN]⟩
  · have h1 : unsOf f = [unsF f] := by
      unfold unsOf at hs ⊢
      split
      · rfl
      · rename_i h2
        rw [if_neg h2] at hs
        exact absurd rfl hs
    obtain ⟨x, h3, h4⟩ := key
    rw [h1]
    exact ⟨[x], rfl, h3, by rw [h4]; simp [ofsN]⟩
theorem rcT_of0 : ∀ (l : List F0) (ps : List Int) (s : RcS) (w : List Nat), ∃ ws, ws.length = (unsT l).length ∧ (unsT l).foldl plainStep ⟨s.out, w, ps.drop s.out.length⟩ = ⟨(l.foldl (rcStep ps) s).out, w ++ ws, ps.drop (l.foldl (rcStep ps) s).out.length⟩ ∧ (l.foldl (rcStep ps) s).of = s.of ++ ofsN (unsT l) ws
  | [], _, s, w => ⟨[], rfl, by simp [unsT], by simp [unsT, ofsN]⟩
  | f :: l, ps, s, w => by
    have e : unsT (f :: l) = unsOf f ++ unsT l := rfl
    obtain ⟨a, h1, h2, h3⟩ := rc_of ps s f w
    obtain ⟨b, h4, h5, h6⟩ := rcT_of0 l ps (rcStep ps s f) (w ++ a)
    refine ⟨a ++ b, by rw [e, List.length_append, List.length_append, h1, h4], ?_, ?_⟩
    · rw [e, List.foldl_append, h2, List.foldl_cons, h5, List.append_assoc]
    · rw [List.foldl_cons, h6, h3, e, ofsN_append _ _ _ _ h1, List.append_assoc]
/-- of the j-th way: what each pick is taken modulo -/
theorem rcT_of (d : Dk) (j : Nat) : (rcT d.files (picksOf (unsT d.files) j)).of = ofsN (unsT d.files) (digT (unsT d.files) j) := by
  obtain ⟨ws, _, h2, h3⟩ := rcT_of0 d.files (picksOf (unsT d.files) j) ⟨[], [], []⟩ []
  have e : (picksOf (unsT d.files) j).drop (⟨[], [], []⟩ : RcS).out.length = picksOf (unsT d.files) j := rfl
  rw [e] at h2
  have hw := plain_way (unsT d.files) j
  unfold plainT at hw
  rw [hw] at h2
  have hws : digT (unsT d.files) j = ws := by
    have := congrArg PlS.ways h2
    simpa using this
  rw [hws]
  have h4 : (rcT d.files (picksOf (unsT d.files) j)).of = [] ++ ofsN (unsT d.files) ws := h3
  rw [h4]
  rfl
/-- what the document's Next finds -/
theorem nextL_at {out of : List Nat} (hl : out.length = of.length) {i : Nat} (hi : i < out.length) (hi2 : i < of.length) (hn : nextL (out.drop (i + 1)) (of.drop (i + 1)) = none) : (out[i] + 1 < of[i] → nextL out of = some (out.take i ++ [out[i] + 1])) ∧ (¬ out[i] + 1 < of[i] → nextL (out.drop i) (of.drop i) = none) := by
  have h1 : nextL (out.drop i) (of.drop i) = if out[i] + 1 < of[i] then some [out[i] + 1] else none := by
    rw [List.drop_eq_getElem_cons hi, List.drop_eq_getElem_cons hi2]
    show (match nextL (out.drop (i + 1)) (of.drop (i + 1)) with | some t => some (out[i] :: t) | none => if out[i] + 1 < of[i] then some [out[i] + 1] else none) = _
    rw [hn]
  refine ⟨fun h => ?_, fun h => by rw [h1, if_neg h]⟩
  have h2 := nextL_append (out.take i) (of.take i) (out.drop i) (of.drop i) (by rw [List.length_take, List.length_take, hl])
  rw [List.take_append_drop, List.take_append_drop, h1, if_pos h] at h2
  exact h2
end Go.Proofs.Ytmkjejngnahpeaa
/- The document's Next. -/
namespace Go.Proofs.Ytmkjejngnahpeaa
open Go Go.Maps Go.RowKit

theorem ofsN_max : ∀ (l : List U0) (ws : List Nat), (∀ u ∈ l, u.more ≤ 16777216) → ∀ x ∈ ofsN l ws, x ≤ 16777218
  | [], _, _, x, hx => by cases hx
  | u :: l, [], _, x, hx => by cases hx
  | u :: l, y :: r, hm, x, hx => by
    have hu := hm u (List.mem_cons_self ..)
    rcases List.mem_append.1 hx with h | h
    · unfold ofsOne at h
      split at h
      · split at h
        · simp only [List.mem_singleton] at h; omega
        · split at h
          · simp only [List.mem_cons, List.not_mem_nil, or_false] at h; omega
          · simp only [List.mem_singleton] at h; omega
      · split at h
        · simp only [List.mem_singleton] at h; omega
        · cases h
    · exact ofsN_max l r (fun v hv => hm v (List.mem_cons_of_mem _ hv)) x h
/-- what Next answers to the j-th way's picks -/
def NextIs (w : World) (us : List U0) (j : Nat) (e : Ending) (w' : World) : Prop :=
  ((j + 1 = prodW us ∧ e = .returned (.tuple #[.slice none 0 0, .bool false])) ∨ (j + 1 < prodW us ∧ ∃ o m c, e = .returned (.tuple #[.slice o m c, .bool true]) ∧ (picksOf us (j + 1)).length = m ∧ readAt w' 1 (.slice o m c) m (intCells (picksOf us (j + 1))) ∧ ∀ k, (Value.slice o m c).ownBlock = some k → w.heap.size ≤ k)) ∧ Below w.heap.size w w'
set_option maxRecDepth 100000 in
set_option maxHeartbeats 8000000 in
theorem refNext_b {w : World} {S : Nat → Prop} {p : Nat} {d : Dk} (h : RfAt w S p d) {oa : Option Addr} {n c j : Nat} (hj : j < prodW (unsT d.files)) (hul : (unsT d.files).length ≤ 4096) (hum : ∀ u ∈ unsT d.files, u.more ≤ 16777216) (hn : (picksOf (unsT d.files) j).length = n) (hp : readAt w 1 (.slice oa n c) n (intCells (picksOf (unsT d.files) j))) :
    Calls Try.prog 86 #[.pointer (some ⟨p, 0, none⟩), .slice oa n c] w fun e w' => NextIs w (unsT d.files) j e w' := by
  have hnl : n ≤ 10000 := by rw [← hn]; exact picksOf_len hul j
  have hmx : ∀ x ∈ picksOf (unsT d.files) j, x ≤ 9223372036854775807 := fun x hx => by have := picksOf_max hum j x hx; omega
  have HCR := Lib.hid (refCrash_b h hn hp (by omega) hmx)
  have HR := Lib.hid h
  have HU := Lib.hid (And.intro hj (And.intro hul hum))
  clear h hj hul hum hn hp hmx
  go_enter Try.func86, Try.ntmps86
  go_wp2_with fail
  refine HCR.out.mono ?_
  rintro e w2 (⟨hf, -, -⟩ | ⟨-, b, op, mp, cp, oo, mo, co, fv, rfl, h1, h2, hI⟩)
  · exact absurd (picksOf_ge _ _) hf
  have hO := rcT_out d (picksOf (unsT d.files) j)
  rw [plain_way] at hO
  have hF := rcT_of d j
  obtain ⟨O, hOe⟩ : ∃ O, ofN (unsT d.files) (digT (unsT d.files) j) = O := ⟨_, rfl⟩
  obtain ⟨F, hFe⟩ : ∃ F, ofsN (unsT d.files) (digT (unsT d.files) j) = F := ⟨_, rfl⟩
  have hOF := ofsN_len (unsT d.files) (digT (unsT d.files) j)
  have hND := next_dig (unsT d.files) j
  rw [Nat.mod_eq_of_lt HU.out.1] at hND
  have hFm := ofsN_max (unsT d.files) (digT (unsT d.files) j) HU.out.2.2
  have hOm : ∀ x ∈ O, x ≤ 16777218 := fun x hx => by
    have := picksOf_max HU.out.2.2 j (x : Int) (by rw [picksOf_eq, hOe]; exact List.mem_map_of_mem hx)
    omega
  simp only [hOe, hFe] at hOF hND hFm hO hF
  have hpr := hI.prow.read
  have hor := hI.orow.read
  rw [hO] at h1 hpr
  rw [hF] at h2 hor
  rw [h1] at hpr
  rw [h2] at hor
  have hmm : mo = mp := by rw [← h1, ← h2]; exact hOF.symm
  subst hmm
  have hml : mo ≤ 10000 := by
    rw [← h1, ← hOe]
    have := picksOf_len HU.out.2.1 j
    rw [picksOf_eq] at this
    unfold ints at this
    rwa [List.length_map] at this
  have HO := Lib.hid (And.intro h1 (And.intro h2 (And.intro hpr (And.intro hor (And.intro hOm hFm)))))
  have HND := Lib.hid hND
  have HB := Lib.hid hI.files.below
  have HOF := Lib.hid hOF
  clear hO hF hOe hFe hOF hND hFm hOm hpr hor h1 h2 hI HCR
  go_wp2_with fail
  go_loopw [10] (fun i wr => ∃ m : Nat, i = .int .i64 ((m : Int) - 1) ∧ m ≤ mo ∧ Hid (nextL (O.drop m) (F.drop m) = none) ∧ Hid (Below w2.heap.size w2 wr)) (fun i _ => (intOf i + 1).toNat)
  case atStart => exact ⟨mo, rfl, Nat.le_refl _, Lib.hid (by rw [List.drop_of_length_le (by rw [HO.out.1]; exact Nat.le_refl _), List.drop_of_length_le (by rw [HO.out.2.1]; exact Nat.le_refl _)]; rfl), Lib.hid (Below.refl _ _)⟩
  case round =>
    obtain ⟨m, rfl, hm, HNL, HW⟩ := hrel
    cases m with
    | zero =>
      have hneg : ((0 : Nat) : Int) - 1 = -1 := rfl
      rw [hneg]
      have HE : Hid (j + 1 = prodW (unsT d.files)) := Lib.hid (by
        have h1 := HNL.out
        rw [List.drop_zero, List.drop_zero] at h1
        have h2 := HND.out
        by_cases he : j + 1 = prodW (unsT d.files)
        · exact he
        · rw [if_neg he, h1] at h2
          obtain ⟨t, h3, _⟩ := h2
          cases h3)
      clear hneg
      go_wp2_with fail
      go_ret2
      exact ⟨.inl ⟨HE.out, rfl⟩, HB.out.trans (HW.out.mono HB.out.size)⟩
    | succ m =>
      have hmm : ((m + 1 : Nat) : Int) - 1 = (m : Int) := by omega
      rw [hmm]
      have hmO : m < O.length := by rw [HO.out.1]; omega
      have hmF : m < F.length := by rw [HO.out.2.1]; omega
      obtain ⟨a, ha⟩ : ∃ a, O[m] = a := ⟨_, rfl⟩
      obtain ⟨f, hf⟩ : ∃ f, F[m] = f := ⟨_, rfl⟩
      have hat := nextL_at HOF.out hmO hmF HNL.out
      rw [ha, hf] at hat
      have ham : a ≤ 16777218 := HO.out.2.2.2.2.1 a (by rw [← ha]; exact List.getElem_mem hmO)
      have hfm : f ≤ 16777218 := HO.out.2.2.2.2.2 f (by rw [← hf]; exact List.getElem_mem hmF)
      have hpw : readAt wr 1 (.slice op mo cp) mo (natCells O) := HO.out.2.2.1.kept (fun k hk _ _ => HW.out.block k hk)
      have how : readAt wr 1 (.slice oo mo co) mo (natCells F) := HO.out.2.2.2.1.kept (fun k hk _ _ => HW.out.block k hk)
      have hcp := hpw.cap
      obtain ⟨g1, off1, rfl⟩ := hpw.addr (by omega)
      obtain ⟨g2, off2, rfl⟩ := how.addr (by omega)
      have k1 : wr.cell? ⟨g1, off1 + m, none⟩ = some (.int .i64 (a : Int)) := hpw.cellAt (i := m) (by unfold natCells; rw [List.getElem?_map, List.getElem?_eq_getElem hmO, ha]; rfl)
      have k2 : wr.cell? ⟨g2, off2 + m, none⟩ = some (.int .i64 (f : Int)) := how.cellAt (i := m) (by unfold natCells; rw [List.getElem?_map, List.getElem?_eq_getElem hmF, hf]; rfl)
      have HAT := Lib.hid hat
      have HPW := Lib.hid hpw
      have HTK : Hid (O.take (m + 1) = O.take m ++ [a]) := Lib.hid (by rw [List.take_succ_eq_append_getElem hmO, ha])
      clear hmm hmO hmF ha hf hat hpw how
      by_cases hlt : a + 1 < f
      · have hd : decide ((a : Int) < (f : Int) - 1) = true := decide_eq_true (by omega)
        go_wp2_with fail
        have hpw0 : ∀ k, readAt (wr.drewN k) 1 (.slice (some ⟨g1, off1, none⟩) mo cp) mo (natCells O) := fun k => HPW.out.kept (fun _ _ _ _ => rfl)
        have hbw0 : ∀ k, Below w2.heap.size w2 (wr.drewN k) := fun k => ⟨HW.out.os, HW.out.tape, HW.out.output, HW.out.size, HW.out.block⟩
        have HPB := Lib.hid (And.intro hpw0 hbw0)
        clear hpw0 hbw0
        go_quiet (fail)
        generalize hW0 : wr.drewN _ = W0
        have hpw : readAt W0 1 (.slice (some ⟨g1, off1, none⟩) mo cp) mo (natCells O) := by rw [← hW0]; exact HPB.out.1 _
        have hbw : Below w2.heap.size w2 W0 := by rw [← hW0]; exact HPB.out.2 _
        have hone : ∀ (l : List Nat), ∀ v ∈ natCells l, v.oneCell' = true := fun l v hv => by
          obtain ⟨y, _, rfl⟩ := List.mem_map.1 hv
          rfl
        have hone2 : ∀ v ∈ ([.int .i64 ((a : Int) + 1)] : List Value), v.oneCell' = true := fun v hv => by
          rw [List.mem_singleton] at hv
          subst hv
          rfl
        have hsl := itake_run (oa := some ⟨g1, off1, none⟩) (n := mo) (c := cp) m (by omega) (add_zero_map _)
        have htk : readAt W0 1 (.slice (some ⟨g1, off1, none⟩) m cp) m (natCells (O.take m)) := by
          have h1 := hpw.take m (by omega)
          have e : (natCells O).take (m * 1) = natCells (O.take m) := by
            unfold natCells
            rw [Nat.mul_one, List.map_take]
          rwa [e] at h1
        have hnil : rowAt W0 3 1 (.slice none 0 0) 0 [] := ⟨rfl, .inl ⟨rfl, rfl⟩⟩
        have hmO2 : m < O.length := by rw [HO.out.1]; omega
        have k1' : W0.cell? ⟨g1, off1 + m, none⟩ = some (.int .i64 (a : Int)) := by
          rw [← hW0]
          exact k1
        have hg1l : g1 < W0.heap.size := World.block_lt_of_cell? _ _ k1'
        have HA := Lib.hid (And.intro htk (And.intro hnil (And.intro (hone (O.take m)) (And.intro hone2 (And.intro hbw hg1l)))))
        clear hpw hbw hone hone2 htk hnil k1 k2 hd hmO2 hW0 hg1l
        go_wp2_with (at_builtin; first | (refine wpList_append_at W0 rfl (.const (.slice none 0 0)) (.tmp 43) 32 32 rfl 3 (.int .i64 0) 1 8 Try.underlying32 info_int rfl (.slice none 0 0) 0 [] (by rfl) HA.out.2.1 (.slice (some ⟨g1, off1, none⟩) m cp) m (natCells (O.take m)) (by rfl) (Src.of_read Try.underlying32 HA.out.1 HA.out.2.2.1) (by unfold maxLen; omega) (by omega) ?_; intro v5 w5 hr5 hg5 ho5 hnn5; rw [Nat.zero_add, List.nil_append] at hr5; obtain ⟨o5, c5, hv5, hc5⟩ := hr5.shape; subst hv5; have hb5 : Below W0.heap.size W0 w5 := (Below.refl _ _).grown hg5 (Nat.le_refl _) (fun k e => by simp [Value.ownBlock] at e); have k15 : w5.cell? ⟨g1, off1 + m, none⟩ = some (.int .i64 (a : Int)) := (hb5.cell (p := ⟨g1, off1 + m, none⟩) HA.out.2.2.2.2.2).trans k1'; have HR5 := Lib.hid (And.intro hr5 (And.intro hb5 ho5)); clear hr5 hg5 ho5 hnn5 hc5 hb5) | (refine wpList_append_one rfl (.tmp 45) (.tmp 51) 32 3 rfl Try.underlying32 info_int rfl (by omega) HR5.out.1 (by omega) [.int .i64 ((a : Int) + 1)] rfl HA.out.2.2.2.1 (by rfl) (by rfl) ?_; intro o6 c6 w6 HR6 HG6 HO6))
        have hb06 : Below W0.heap.size W0 w6 := by
          have h5 := HR5.out.2.1
          refine (h5.alloc h5.size _).grown HG6.out (h5.alloc h5.size _).size (fun k e => ?_)
          rcases HR5.out.2.2 with h | h
          · rw [e] at h
            simp [Value.ownBlock] at h
          · rw [e] at h
            simp only [Option.some.injEq] at h
            omega
        have hbw6 : Below w.heap.size w w6 := HB.out.trans ((HA.out.2.2.2.2.1.trans (hb06.mono HA.out.2.2.2.2.1.size)).mono HB.out.size)
        have hcells : natCells (O.take m) ++ [Value.int .i64 ((a : Int) + 1)] = intCells (ints (O.take m ++ [a + 1])) := by
          rw [← natCells_int, natCells_append]
          rfl
        have hr6 : readAt w6 1 (.slice o6 (m + 1) c6) (m + 1) (intCells (ints (O.take m ++ [a + 1]))) := by
          rw [← hcells]
          exact HR6.out.read
        have hln : (ints (O.take m ++ [a + 1])).length = m + 1 := by
          unfold ints
          rw [List.length_map, List.length_append, List.length_take, HO.out.1]
          simp
          omega
        have hmx2 : ∀ y ∈ ints (O.take m ++ [a + 1]), y ≤ 9223372036854775807 := fun y hy => by
          obtain ⟨z, hz, rfl⟩ := List.mem_map.1 hy
          rcases List.mem_append.1 hz with h1 | h1
          · have := HO.out.2.2.2.2.1 z (List.mem_of_mem_take h1)
            omega
          · rw [List.mem_singleton] at h1
            omega
        have hge2 : AllGe (ints (O.take m ++ [a + 1])) := fun y hy => by
          obtain ⟨z, _, rfl⟩ := List.mem_map.1 hy
          exact Int.natCast_nonneg z
        have HCR := Lib.hid (refCrash_b (HR.out.below hbw6) hln hr6 (by omega) hmx2)
        have HG2 := Lib.hid hge2
        have HB6 := Lib.hid hbw6
        have hnd : j + 1 < prodW (unsT d.files) ∧ (rcT d.files (ints (O.take m ++ [a + 1]))).out = ofN (unsT d.files) (digT (unsT d.files) (j + 1)) := by
          have h1 := HAT.out.1 hlt
          have h2 := HND.out
          have hj := HU.out.1
          by_cases he : j + 1 = prodW (unsT d.files)
          · rw [if_pos he, h1] at h2
            cases h2
          · rw [if_neg he, h1] at h2
            obtain ⟨t, h3, h4⟩ := h2
            simp only [Option.some.injEq] at h3
            subst h3
            refine ⟨by omega, ?_⟩
            rw [rcT_out]
            have h5 := h4 [] []
            show ((unsT d.files).foldl plainStep ⟨[], [], _⟩).out = _
            rw [h5]
            rfl
        have HFN := Lib.hid hnd
        clear hb06 hbw6 hcells hr6 hln hmx2 hge2 hnd k15 k1' hsl
        go_wp2_with fail
        refine HCR.out.mono ?_
        rintro e w7 (⟨hf, -, -⟩ | ⟨-, b7, op7, mp7, cp7, oo7, mo7, co7, fv7, rfl, g3, g4, hI7⟩)
        · exact absurd HG2.out hf
        have hpr7 := hI7.prow.read
        rw [g3, HFN.out.2, natCells_int, ← picksOf_eq] at hpr7
        rw [HFN.out.2] at g3
        have hl7 : (picksOf (unsT d.files) (j + 1)).length = mp7 := by
          rw [picksOf_eq]
          unfold ints
          rw [List.length_map]
          exact g3
        have hol7 := fun k hk => Nat.le_trans HB6.out.size (hI7.plow k hk)
        have HE7 := Lib.hid (And.intro hpr7 (And.intro hl7 (And.intro (HB6.out.trans (hI7.files.below.mono HB6.out.size)) hol7)))
        clear hpr7 hl7 g3 g4 hI7 hol7
        go_wp2_with fail
        go_ret2
        exact ⟨.inr ⟨HFN.out.1, op7, mp7, cp7, rfl, HE7.out.2.1, HE7.out.1, HE7.out.2.2.2⟩, HE7.out.2.2.1⟩
      · have hd : decide ((a : Int) < (f : Int) - 1) = false := decide_eq_false (by omega)
        have HNX : Hid (nextL (O.drop m) (F.drop m) = none) := Lib.hid (HAT.out.2 hlt)
        go_wp2_with fail
        go_quiet (fail)
        go_wp2_with fail
        exact ⟨⟨m, by simp, by omega, HNX, Lib.hid ⟨HW.out.os, HW.out.tape, HW.out.output, HW.out.size, HW.out.block⟩⟩, by simp [intOf]⟩
end Go.Proofs.Ytmkjejngnahpeaa
