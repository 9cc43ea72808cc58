/- Segment names: known, and the law. -/
import Derived.Test.YtmkjejngnahpeaaSegE
namespace Go.Proofs.Ytmkjejngnahpeaa
open Go.RowKit

theorem parse_true (s a : ByteArray) (b : Int) (w : World) (hs : s.size ≤ maxLen) (h : okName s.data.toList = true) (ha : s.extract 0 (s.size - 15) = a) (hb : ((hnum (digs s.data.toList) : Nat) : Int) = b) :
    Calls Try.prog 17 #[.string s] w fun e w' => e = .returned (.tuple #[.string a, .int .i64 b, .bool true]) ∧ Below w.heap.size w w' :=
  (parse_any s w hs).mono fun _ _ ⟨hp, hbl⟩ => ⟨by rw [← ha, ← hb]; exact hp.1 h, hbl⟩
theorem parse_false (s : ByteArray) (w : World) (hs : s.size ≤ maxLen) (h : okName s.data.toList = false) :
    Calls Try.prog 17 #[.string s] w fun e w' => e = .returned (.tuple #[.string ⟨#[]⟩, .int .i64 0, .bool false]) ∧ Below w.heap.size w w' :=
  (parse_any s w hs).mono fun _ _ ⟨hp, hbl⟩ => ⟨hp.2 h, hbl⟩
theorem refparse_true (s a : ByteArray) (b : Int) (w : World) (hs : s.size ≤ maxLen) (h : okName s.data.toList = true) (ha : s.extract 0 (s.size - 15) = a) (hb : ((hnum (digs s.data.toList) : Nat) : Int) = b) :
    Calls Try.prog 18 #[.string s] w fun e w' => e = .returned (.tuple #[.string a, .int .i64 b, .bool true]) ∧ w = w' :=
  (refparse_any s w hs).mono fun _ _ ⟨hp, hbl⟩ => ⟨by rw [← ha, ← hb]; exact hp.1 h, hbl⟩
theorem refparse_false (s : ByteArray) (w : World) (hs : s.size ≤ maxLen) (h : okName s.data.toList = false) :
    Calls Try.prog 18 #[.string s] w fun e w' => e = .returned (.tuple #[.string ⟨#[]⟩, .int .i64 0, .bool false]) ∧ w = w' :=
  (refparse_any s w hs).mono fun _ _ ⟨hp, hbl⟩ => ⟨hp.2 h, hbl⟩

theorem create_nil (s : ByteArray) (b st : Int) (w : World) :
    Calls Try.prog 24 #[.pointer none, .string s, .int .i64 b, .int .i64 st] w fun e w' => e = .returned (.tuple #[.pointer none, .int .i64 1]) ∧ w = w' := by
  go_enter Try.func24, Try.ntmps24
  go_wp2
  go_ret2
  exact ⟨rfl, rfl⟩

def pName : ByteArray := ⟨#[112, 45, 48, 48, 48, 48, 48, 48, 48, 48, 48, 48, 48, 48, 48, 102]⟩
def pLog : ByteArray := ⟨#[112]⟩
theorem pName_ok : okName pName.data.toList = true := by decide +kernel
theorem pName_cut : pName.extract 0 (pName.size - 15) = pLog := by decide +kernel
theorem pName_num : ((hnum (digs pName.data.toList) : Nat) : Int) = 15 := by decide +kernel
theorem pName_back : pName = ⟨(pLog.data.toList ++ 45 :: hex 14 15).toArray⟩ := by decide +kernel
theorem pLog_ok : loggedB pLog.data.toList = true := by decide +kernel

theorem pName_eq : (pName.toList == [112, 45, 48, 48, 48, 48, 48, 48, 48, 48, 48, 48, 48, 48, 48, 102]) = true := by rw [ByteArray.toList_eq]; decide +kernel
theorem pLog_eq : (pLog.toList == [112]) = true := by rw [ByteArray.toList_eq]; decide +kernel

set_option maxRecDepth 100000 in
set_option maxHeartbeats 400000 in
theorem known_any (w : World) : Calls Try.prog 20 #[] w fun e w' => e = .returned (.bool true) ∧ Below w.heap.size w w' := by
  have hp1 := pName_eq
  have hp2 := pLog_eq
  go_enter Try.func20, Try.ntmps20
  go_wp2_with fail
  refine (name_ok' pLog pName 15 _ (by decide) pLog_ok (by decide) pName_back).mono ?_
  rintro e w1 ⟨rfl, hb1⟩
  go_wp2_with fail
  refine (parse_true pName pLog 15 _ (by decide) pName_ok pName_cut pName_num).mono ?_
  rintro e w2 ⟨rfl, hb2⟩
  go_wp2_with fail
  refine (create_nil pLog 0 1 _).mono ?_
  rintro e w' ⟨rfl, rfl⟩
  go_wp2_with fail
  go_ret
  exact ⟨rfl, hb1.trans (hb2.mono hb1.size)⟩

theorem parse_same (t : ByteArray) (ht : t.size ≤ maxLen) : ∃ (a : ByteArray) (c : Int) (o : Bool),
    (∀ w, Calls Try.prog 17 #[.string t] w fun e w' => e = .returned (.tuple #[.string a, .int .i64 c, .bool o]) ∧ Below w.heap.size w w') ∧
    (∀ w, Calls Try.prog 18 #[.string t] w fun e w' => e = .returned (.tuple #[.string a, .int .i64 c, .bool o]) ∧ w = w') := by
  have ht' := ht
  cases hok : okName t.data.toList with
  | true => exact ⟨_, _, _, fun w => parse_true t _ _ w ht' hok rfl rfl, fun w => refparse_true t _ _ w ht hok rfl rfl⟩
  | false => exact ⟨_, _, _, fun w => parse_false t w ht' hok, fun w => refparse_false t w ht hok⟩

set_option maxRecDepth 100000 in
set_option maxHeartbeats 1000000 in
theorem names_any (s t : ByteArray) (b : Int) (w : World) (hs : s.size ≤ maxLen) (ht : t.size ≤ maxLen) (hb1 : -9223372036854775808 ≤ b) (hb2 : b ≤ 9223372036854775807) :
    Calls Try.prog 3 #[.string s, .int .i64 b, .string t] w fun e w' => e = .returned (.bool true) ∧ Below w.heap.size w w' := by
  obtain ⟨a, c, o, hp⟩ := parse_same t ht
  have HP := Lib.hid hp
  have HS := Lib.hid hs
  clear hp hs ht
  by_cases hn : loggedB s.data.toList = true ∧ 0 ≤ b ∧ b ≤ 9007199254740992
  · obtain ⟨n1, n2, n3⟩ := hn
    obtain ⟨n, rfl⟩ := Int.eq_ofNat_of_zero_le n2
    have h8 := (loggedB_len _ n1).2
    obtain ⟨bk, hbk⟩ : ∃ bk : ByteArray, bk = ⟨(s.data.toList ++ 45 :: hex 14 n).toArray⟩ := ⟨_, rfl⟩
    have H8 : Hid (s.size ≤ 8) := Lib.hid (by simpa using h8)
    have HB := Lib.hid hbk
    have HN := Lib.hid n1
    have HM : Hid (n ≤ 9007199254740992) := Lib.hid (by omega)
    have hd0 : decide ((n : Int) < 0) = false := by simp
    have hd : decide ((9007199254740992 : Int) < (n : Int)) = false := by rw [decide_eq_false_iff_not]; omega
    clear hbk n1 n2 n3 h8 hb1 hb2
    go_enter Try.func3, Try.ntmps3
    go_wp2_with fail
    refine (name_ok' s bk n _ H8.out HN.out HM.out HB.out).mono ?_
    rintro e w1 ⟨rfl, hw1⟩
    go_wp2_with fail
    refine (HP.out.1 _).mono ?_
    rintro e w2 ⟨rfl, hw2⟩
    go_wp2_with fail
    refine (HP.out.2 _).mono ?_
    rintro e w' ⟨rfl, rfl⟩
    go_wp2_with fail
    refine (reflogged_any s _ HS.out).mono ?_
    rintro e w' ⟨rfl, rfl⟩
    rw [HN.out]
    go_wp2_with fail
    refine (refname_ok s n _ H8.out HM.out).mono ?_
    rintro e w' ⟨rfl, rfl⟩
    rw [← HB.out]
    go_wp2_with fail
    refine (known_any _).mono ?_
    rintro e w3 ⟨rfl, hw3⟩
    go_wp2_with fail
    go_ret
    exact ⟨rfl, (hw1.trans (hw2.mono hw1.size)).trans (hw3.mono (Nat.le_trans hw1.size hw2.size))⟩
  · have HN : Hid (loggedB s.data.toList = false ∨ b < 0 ∨ 9007199254740992 < b) := by
      refine Lib.hid ?_
      cases hl : loggedB s.data.toList with
      | false => exact .inl rfl
      | true =>
        have : ¬ (0 ≤ b ∧ b ≤ 9007199254740992) := fun h => hn ⟨hl, h⟩
        exact .inr (by omega)
    clear hn
    cases hg : loggedB s.data.toList with
    | false =>
      have HG := Lib.hid hg
      clear hg
      go_enter Try.func3, Try.ntmps3
      go_wp2_with fail
      refine (name_no s b _ HS.out HN.out).mono ?_
      rintro e w' ⟨rfl, rfl⟩
      go_wp2_with fail
      refine (HP.out.1 _).mono ?_
      rintro e w2 ⟨rfl, hw2⟩
      go_wp2_with fail
      refine (HP.out.2 _).mono ?_
      rintro e w' ⟨rfl, rfl⟩
      go_wp2_with fail
      refine (reflogged_any s _ HS.out).mono ?_
      rintro e w' ⟨rfl, rfl⟩
      rw [HG.out]
      go_wp2_with fail
      refine (known_any _).mono ?_
      rintro e w3 ⟨rfl, hw3⟩
      go_wp2_with fail
      go_ret
      exact ⟨rfl, hw2.trans (hw3.mono hw2.size)⟩
    | true =>
      have HG := Lib.hid hg
      have hx : b < 0 ∨ 9007199254740992 < b := by
        rcases HN.out with h | h
        · rw [hg] at h; cases h
        · exact h
      clear hg
      by_cases h0 : b < 0
      · have hd0 : decide (b < 0) = true := by simp [h0]
        clear hx h0
        go_enter Try.func3, Try.ntmps3
        go_wp2_with fail
        refine (name_no s b _ HS.out HN.out).mono ?_
        rintro e w' ⟨rfl, rfl⟩
        go_wp2_with fail
        refine (HP.out.1 _).mono ?_
        rintro e w2 ⟨rfl, hw2⟩
        go_wp2_with fail
        refine (HP.out.2 _).mono ?_
        rintro e w' ⟨rfl, rfl⟩
        go_wp2_with fail
        refine (reflogged_any s _ HS.out).mono ?_
        rintro e w' ⟨rfl, rfl⟩
        rw [HG.out]
        go_wp2_with fail
        refine (known_any _).mono ?_
        rintro e w3 ⟨rfl, hw3⟩
        go_wp2_with fail
        go_ret
        exact ⟨rfl, hw2.trans (hw3.mono hw2.size)⟩
      · have hd0 : decide (b < 0) = false := by simp; omega
        have hd : decide (9007199254740992 < b) = true := by rw [decide_eq_true_eq]; omega
        clear hx h0
        go_enter Try.func3, Try.ntmps3
        go_wp2_with fail
        refine (name_no s b _ HS.out HN.out).mono ?_
        rintro e w' ⟨rfl, rfl⟩
        go_wp2_with fail
        refine (HP.out.1 _).mono ?_
        rintro e w2 ⟨rfl, hw2⟩
        go_wp2_with fail
        refine (HP.out.2 _).mono ?_
        rintro e w' ⟨rfl, rfl⟩
        go_wp2_with fail
        refine (reflogged_any s _ HS.out).mono ?_
        rintro e w' ⟨rfl, rfl⟩
        rw [HG.out]
        go_wp2_with fail
        refine (known_any _).mono ?_
        rintro e w3 ⟨rfl, hw3⟩
        go_wp2_with fail
        go_ret
        exact ⟨rfl, hw2.trans (hw3.mono hw2.size)⟩
end Go.Proofs.Ytmkjejngnahpeaa
