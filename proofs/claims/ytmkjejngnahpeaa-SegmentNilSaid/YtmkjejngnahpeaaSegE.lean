/- Segment names: the reference's Parse. -/
import Derived.Test.YtmkjejngnahpeaaSegD
namespace Go.Proofs.Ytmkjejngnahpeaa
open Go.RowKit

theorem num_hex (v d : Nat) : ((16 : Int) * (v : Int) + (d : Int)) = ((16 * v + d : Nat) : Int) := by omega

set_option maxRecDepth 100000 in
set_option maxHeartbeats 1000000 in
theorem refparse_long (s : ByteArray) (w : World) (m : Nat) (hsz : s.size = m + 15) (hs : m ≤ 9223372036854775792) (h1 : 1 ≤ m) :
    Calls Try.prog 18 #[.string s] w fun e w' => ParsePost s e ∧ w = w' := by
  have hlen : s.data.toList.length = m + 15 := by rw [← hsz]; simp
  obtain ⟨ds, hds⟩ : ∃ ds, ds = digs s.data.toList := ⟨_, rfl⟩
  have hdl : ds.length = 14 := by rw [hds]; exact digs_length _ (by omega)
  have hget : ∀ k (h : m + 1 + k < s.size), k < 14 → s[m + 1 + k]'h = ds.getD k 0 := by
    intro k h hk
    rw [hds, digs, List.getD_eq_getElem?_getD, List.getElem?_drop, hlen, show m + 15 - 14 + k = m + 1 + k by omega, List.getElem?_eq_getElem (by simp; omega)]
    rfl
  have HDS := Lib.hid hds
  have HDL := Lib.hid hdl
  have HLEN := Lib.hid hlen
  clear hds hdl hlen
  go_enter Try.func18, Try.ntmps18
  go_wp2
  go_loop [6, 7] (fun c i => ∃ k v : Nat, k ≤ 14 ∧ i = .int .i64 ((m + 1 + k : Nat) : Int) ∧ c = .int .i64 v ∧ v < 72057594037927936 ∧ Hid ((ds.take k).all isHex = true ∧ v = hnum (ds.take k))) (fun _ i => ((m : Int) + 15 - intOf i).toNat)
  case atStart => exact ⟨0, 0, by omega, by go_num, rfl, by omega, Lib.hid (by simp [hnum])⟩
  case round =>
    obtain ⟨k, v, hk, rfl, rfl, hv, HV⟩ := hrel
    by_cases hlt : k < 14
    · obtain ⟨c, hc⟩ : ∃ c, c = ds.getD k 0 := ⟨_, rfl⟩
      have hck := hget k (by omega) hlt
      rw [← hc] at hck
      have HC := Lib.hid hc
      clear hc hget
      have hvb : v < 4503599627370496 := by
        have h1 := hnum_lt ds k (by have := HDL.out; omega) HV.out.1
        have h2 : 16 ^ k ≤ 16 ^ 13 := Nat.pow_le_pow_right (by decide) (by omega)
        rw [HV.out.2]
        have h3 : (16 : Nat) ^ 13 = 4503599627370496 := by decide
        omega
      have HT : Hid (ds.take (k + 1) = ds.take k ++ [c]) := by
        refine Lib.hid ?_
        have := HDL.out
        rw [List.take_succ_eq_append_getElem (by omega), HC.out]
        simp [List.getD_eq_getElem?_getD, List.getElem?_eq_getElem (show k < ds.length by omega)]
      clear hv
      by_cases hc1 : 48 ≤ (c.toNat : Int) ∧ (c.toNat : Int) ≤ 57
      · obtain ⟨hc1, hc2⟩ := hc1
        have HH : Hid (isHex c = true ∧ hval c = c.toNat - 48) := Lib.hid (by simp [isHex, hval, UInt8.le_iff_toNat_le]; omega)
        go_wp2
        go_round
        case rel =>
          refine ⟨k + 1, 16 * v + hval c, by omega, by go_num, ?_, ?_, Lib.hid ⟨?_, ?_⟩⟩
          · rw [← num_hex, show ((hval c : Nat) : Int) = (c.toNat : Int) - 48 by rw [HH.out.2]; omega]
          · have := hval_lt c HH.out.1; omega
          · rw [HT.out, List.all_append, HV.out.1]; simp [HH.out.1]
          · rw [HT.out, hnum_snoc, HV.out.2]
        case measure => simp [intOf]; omega
      · by_cases hc3 : 97 ≤ (c.toNat : Int) ∧ (c.toNat : Int) ≤ 102
        · obtain ⟨hc3, hc4⟩ := hc3
          have HH : Hid (isHex c = true ∧ hval c = c.toNat - 87) := Lib.hid (by simp [isHex, hval, UInt8.le_iff_toNat_le]; omega)
          clear hc1
          go_wp2
          go_round
          case rel =>
            refine ⟨k + 1, 16 * v + hval c, by omega, by go_num, ?_, ?_, Lib.hid ⟨?_, ?_⟩⟩
            · rw [← num_hex, show ((hval c : Nat) : Int) = (c.toNat : Int) - 97 + 10 by rw [HH.out.2]; omega]
            · have := hval_lt c HH.out.1; omega
            · rw [HT.out, List.all_append, HV.out.1]; simp [HH.out.1]
            · rw [HT.out, hnum_snoc, HV.out.2]
          case measure => simp [intOf]; omega
        · have HF : Hid (okName s.data.toList = false) := by
            refine Lib.hid (digs_bad _ k (by rw [HLEN.out]; omega) hlt ?_)
            rw [← HDS.out, ← HC.out]
            simp [isHex, UInt8.le_iff_toNat_le]
            omega
          go_wp2
          all_goals (go_ret3; exact ⟨ParsePost.bad HF.out, rfl⟩)
    · obtain rfl : k = 14 := by omega
      have HP : Hid ((s.extract 0 m).data.toList = s.data.toList.take m) := by
        refine Lib.hid ?_
        simp
      have HALL : Hid ((digs s.data.toList).all isHex = true ∧ v = hnum (digs s.data.toList)) := by
        refine Lib.hid ?_
        have h1 := HV.out
        rw [List.take_of_length_le (by have := HDL.out; omega), HDS.out] at h1
        exact h1
      have hps : (s.extract 0 m).size ≤ maxLen := by simp [maxLen]; omega
      obtain ⟨g, hg⟩ : ∃ g, g = loggedB (s.data.toList.take m) := ⟨_, rfl⟩
      have HG : Hid (loggedB (s.extract 0 m).data.toList = g) := Lib.hid (by rw [HP.out, hg])
      obtain ⟨c, hc⟩ : ∃ c, c = s[m]'(by omega) := ⟨_, rfl⟩
      have HM : Hid (s.data.toList[m]? = some c) := by
        refine Lib.hid ?_
        rw [hc, List.getElem?_eq_getElem (by simp; omega)]
        rfl
      have HOK : Hid (okName s.data.toList = (g && (c == 45) && decide (v ≤ 9007199254740992))) := by
        refine Lib.hid ?_
        unfold okName
        rw [HLEN.out, HALL.out.1, ← HALL.out.2, show m + 15 - 15 = m by omega, HM.out, ← hg]
        simp [show 16 ≤ m + 15 by omega]
      have hck : s[m]'(by omega) = c := hc.symm
      clear hlt hk hget hg hc
      cases g with
      | false =>
        have HF : Hid (okName s.data.toList = false) := Lib.hid (by rw [HOK.out]; rfl)
        go_wp2_with (go_at_call 19; refine (reflogged_any _ _ hps).mono ?_; rintro e w' ⟨rfl, rfl⟩; rw [HG.out])
        go_ret3
        exact ⟨ParsePost.bad HF.out, rfl⟩
      | true =>
        by_cases h45 : (c.toNat : Int) = 45
        · have hb : ((c.toNat : Int) != 45) = false := by simp [h45]
          have hc45 : c = 45 := by
            apply UInt8.toNat_inj.1
            show c.toNat = 45
            omega
          by_cases hmax : v ≤ 9007199254740992
          · have hd : decide ((9007199254740992 : Int) < (v : Int)) = false := by rw [decide_eq_false_iff_not]; omega
            have HF : Hid (okName s.data.toList = true) := Lib.hid (by rw [HOK.out, hc45, decide_eq_true hmax]; rfl)
            clear h45 hc45 hmax hv
            go_wp2_with (go_at_call 19; refine (reflogged_any _ _ hps).mono ?_; rintro e w' ⟨rfl, rfl⟩; rw [HG.out])
            go_ret3
            exact ⟨ParsePost.good (a := .string (s.extract 0 m)) (b := .int .i64 (v : Int)) HF.out (by rw [hsz, show m + 15 - 15 = m by omega]) (by rw [← HALL.out.2]), rfl⟩
          · have hd : decide ((9007199254740992 : Int) < (v : Int)) = true := by rw [decide_eq_true_eq]; omega
            have HF : Hid (okName s.data.toList = false) := Lib.hid (by rw [HOK.out, decide_eq_false hmax]; simp)
            clear h45 hc45 hmax hv
            go_wp2_with (go_at_call 19; refine (reflogged_any _ _ hps).mono ?_; rintro e w' ⟨rfl, rfl⟩; rw [HG.out])
            go_ret3
            exact ⟨ParsePost.bad HF.out, rfl⟩
        · have hb : ((c.toNat : Int) != 45) = true := by simp [h45]
          have hc45 : (c == 45) = false := by
            rw [beq_eq_false_iff_ne]
            intro h
            rw [h] at h45
            exact h45 rfl
          have HF : Hid (okName s.data.toList = false) := Lib.hid (by rw [HOK.out, hc45]; simp)
          clear h45 hc45
          go_wp2_with (go_at_call 19; refine (reflogged_any _ _ hps).mono ?_; rintro e w' ⟨rfl, rfl⟩; rw [HG.out])
          go_ret3
          exact ⟨ParsePost.bad HF.out, rfl⟩

set_option maxRecDepth 100000 in
set_option maxHeartbeats 400000 in
theorem refparse_any (s : ByteArray) (w : World) (hs : s.size ≤ maxLen) :
    Calls Try.prog 18 #[.string s] w fun e w' => ParsePost s e ∧ w = w' := by
  by_cases h16 : 16 ≤ s.size
  · exact refparse_long s w (s.size - 15) (by omega) (by unfold maxLen at hs; omega) (by omega)
  · have HOK : Hid (okName s.data.toList = false) := Lib.hid (by simp [okName]; omega)
    unfold maxLen at hs
    go_enter Try.func18, Try.ntmps18
    go_wp2
    go_ret3
    exact ⟨ParsePost.bad HOK.out, rfl⟩
end Go.Proofs.Ytmkjejngnahpeaa
