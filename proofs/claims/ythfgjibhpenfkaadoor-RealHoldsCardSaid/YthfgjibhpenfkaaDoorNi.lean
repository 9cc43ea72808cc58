/- Real: a canonical text, byte for byte. -/
import Derived.Test.YthfgjibhpenfkaaDoorNh
namespace Go.Proofs.YthfgjibhpenfkaaDoor
open Go.RowKit Fl

theorem idx_str (s : ByteArray) (i : Nat) (c : UInt8) (h : s.data[i]? = some c) (W : World) : (Instr.index 9 (.string s) (.int .i64 (i : Int))).run Tryd.prog W = .ok (.int .u8 (c.toNat : Int)) W := by
  obtain ⟨h1, h2⟩ := Array.getElem?_eq_some_iff.1 h
  have hs : i < s.size := h1
  have he : s[i] = c := h2
  go_simp
/-- the bytes of a finite float's text -/
structure Canon (s : ByteArray) (o k q k2 n E : Nat) : Prop where
  ho : o = 0 ∨ o = 1
  hq : q = 0 ∨ q = 1
  size : s.size = o + k + 1 + q + k2
  k1 : 1 ≤ k
  k20 : k ≤ 20
  j1 : 1 ≤ k2
  j20 : k2 ≤ 20
  n53 : n < 9007199254740992
  eb : E ≤ 1200
  sgn : o = 1 → s.data[0]? = some 45
  dig : ∀ j, j < k → ∃ c : UInt8, s.data[o + j]? = some c ∧ 48 ≤ c.toNat ∧ c.toNat ≤ 57 ∧ 10 * (n / 10 ^ (k - j)) + (c.toNat - 48) = n / 10 ^ (k - (j + 1))
  pe : s.data[o + k]? = some 112
  neg : q = 1 → s.data[o + k + 1]? = some 45
  dig2 : ∀ j, j < k2 → ∃ c : UInt8, s.data[o + k + 1 + q + j]? = some c ∧ 48 ≤ c.toNat ∧ c.toNat ≤ 57 ∧ 10 * (E / 10 ^ (k2 - j)) + (c.toNat - 48) = E / 10 ^ (k2 - (j + 1))
  z1 : n / 10 ^ k = 0
  z2 : E / 10 ^ k2 = 0
theorem dec_digit (n j : Nat) (h : j < Lib.nDigits n) : ∃ c : UInt8, (Lib.decDigits n)[j]? = some c ∧ 48 ≤ c.toNat ∧ c.toNat ≤ 57 ∧ 10 * (n / 10 ^ (Lib.nDigits n - j)) + (c.toNat - 48) = n / 10 ^ (Lib.nDigits n - (j + 1)) := by
  refine ⟨Lib.dg n (Lib.nDigits n - 1 - j), ?_, ?_⟩
  · rw [Lib.decDigits_eq, List.getElem?_map, List.getElem?_range h]
    rfl
  · have hlt : n / 10 ^ (Lib.nDigits n - 1 - j) % 10 < 10 := Nat.mod_lt _ (by decide)
    have hc : (Lib.dg n (Lib.nDigits n - 1 - j)).toNat = 48 + n / 10 ^ (Lib.nDigits n - 1 - j) % 10 := by
      show (UInt8.ofNat (48 + n / 10 ^ (Lib.nDigits n - 1 - j) % 10)).toNat = _
      rw [UInt8.toNat_ofNat_of_lt' (by show _ < 256; omega)]
    rw [hc]
    refine ⟨by omega, by omega, ?_⟩
    rw [show Lib.nDigits n - (j + 1) = Lib.nDigits n - 1 - j by omega, show Lib.nDigits n - j = (Lib.nDigits n - 1 - j) + 1 by omega, Nat.pow_succ, ← Nat.div_div_eq_div_mul]
    omega
def sgL (x : Nat) : List UInt8 := if nz ≤ x then [45] else []
theorem text_list (x n : Nat) (ex : Int) : (textB x n ex).data.toList = sgL x ++ (Lib.decDigits n ++ (112 :: Lib.itoa ex)) := by
  have h1 : (sgB x).data.toList = sgL x := by unfold sgB sgL; split <;> rfl
  unfold textB
  simp only [ByteArray.data_append, Array.toList_append, h1]
  simp [dB, pB, iB, List.append_assoc]
theorem canon_text (x n : Nat) (ex : Int) (hn : n < 9007199254740992) (h1 : -1200 ≤ ex) (h2 : ex ≤ 1200) :
    Canon (textB x n ex) (if nz ≤ x then 1 else 0) (Lib.nDigits n) (if ex < 0 then 1 else 0) (Lib.nDigits ex.natAbs) n ex.natAbs := by
  have hl := text_list x n ex
  have hat : ∀ i, (textB x n ex).data[i]? = (sgL x ++ (Lib.decDigits n ++ (112 :: Lib.itoa ex)))[i]? := fun i => by rw [← hl, Array.getElem?_toList]
  have ho : (sgL x).length = if nz ≤ x then 1 else 0 := by unfold sgL; split <;> rfl
  have hit : Lib.itoa ex = (if ex < 0 then [45] else []) ++ Lib.decDigits ex.natAbs := by
    by_cases h : ex < 0
    · obtain ⟨u, rfl⟩ : ∃ u : Nat, ex = -(u : Int) := ⟨ex.natAbs, by omega⟩
      rw [Lib.itoa_neg u (by omega), if_pos h]
      simp
    · obtain ⟨u, rfl⟩ : ∃ u : Nat, ex = u := ⟨ex.toNat, by omega⟩
      rw [Lib.itoa_nonneg, if_neg h]
      simp
  have hq : (if ex < 0 then ([45] : List UInt8) else []).length = if ex < 0 then 1 else 0 := by split <;> rfl
  generalize hO : (if nz ≤ x then 1 else 0) = o at ho ⊢
  generalize hQ : (if ex < 0 then 1 else 0) = q at hq ⊢
  generalize hS : sgL x = S at hat hl ho
  generalize hG : (if ex < 0 then ([45] : List UInt8) else []) = G at hit hq
  have hD := Lib.decDigits_length n
  have hE := Lib.decDigits_length ex.natAbs
  have hp : ∀ m, 0 < Lib.nDigits m := fun m => by have := Lib.nDigits_pos m; omega
  have h20 : ∀ m, m < 18446744073709551616 → Lib.nDigits m ≤ 20 := Lib.nDigits_le20
  exact {
    ho := by rw [← hO]; split <;> simp
    hq := by rw [← hQ]; split <;> simp
    size := by
      show (textB x n ex).data.size = _
      rw [← Array.length_toList, hl, hit]
      simp only [List.length_append, List.length_cons, ho, hD, hE, hq]
      omega
    k1 := hp n
    k20 := h20 n (by omega)
    j1 := hp _
    j20 := h20 _ (by omega)
    n53 := hn
    eb := by omega
    sgn := fun h => by
      rw [hat, List.getElem?_append_left (by omega)]
      subst hO
      have hx : nz ≤ x := by
        rcases Nat.lt_or_ge x nz with h3 | h3
        · rw [if_neg (by omega)] at h; omega
        · exact h3
      rw [← hS]
      unfold sgL
      rw [if_pos hx]
      rfl
    dig := fun j hj => by
      obtain ⟨c, h3, h4⟩ := dec_digit n j hj
      refine ⟨c, ?_, h4⟩
      rw [hat, List.getElem?_append_right (by omega), List.getElem?_append_left (by omega), ho, show o + j - o = j by omega]
      exact h3
    pe := by
      rw [hat, List.getElem?_append_right (by omega), List.getElem?_append_right (by omega), ho, hD, show o + Lib.nDigits n - o - Lib.nDigits n = 0 by omega]
      rfl
    neg := fun h => by
      rw [hat, List.getElem?_append_right (by omega), List.getElem?_append_right (by omega), ho, hD, show o + Lib.nDigits n + 1 - o - Lib.nDigits n = 0 + 1 by omega, List.getElem?_cons_succ, hit, List.getElem?_append_left (by omega)]
      have he : ex < 0 := by
        rcases Int.lt_or_le ex 0 with h3 | h3
        · exact h3
        · rw [← hQ, if_neg (by omega)] at h; omega
      rw [← hG, if_pos he]
      rfl
    dig2 := fun j hj => by
      obtain ⟨c, h3, h4⟩ := dec_digit ex.natAbs j hj
      refine ⟨c, ?_, h4⟩
      rw [hat, List.getElem?_append_right (by omega), List.getElem?_append_right (by omega), ho, hD, show o + Lib.nDigits n + 1 + q + j - o - Lib.nDigits n = (q + j) + 1 by omega, List.getElem?_cons_succ, hit, List.getElem?_append_right (by omega), hq, show q + j - q = j by omega]
      exact h3
    z1 := Nat.div_eq_of_lt (Lib.lt_pow_nDigits n)
    z2 := Nat.div_eq_of_lt (Lib.lt_pow_nDigits _) }
theorem canon_ne {s : ByteArray} {o k q k2 n E : Nat} (h : Canon s o k q k2 n E) (t : ByteArray) (ht : t.data.all (· != 112) = true) : ¬ s = t := by
  rintro rfl
  have := h.pe
  obtain ⟨h1, h2⟩ := Array.getElem?_eq_some_iff.1 this
  have := Array.all_eq_true.1 ht (o + k) h1
  rw [h2] at this
  simp at this
end Go.Proofs.YthfgjibhpenfkaaDoor
