/- QuotaPlays: ask, of any kind. -/
import Derived.Test.YtbpnhpjcepgiiaaPc
import Derived.Test.YtbpnhpjcepgiiaaPd
namespace Go.Proofs.Ytbpnhpjcepgiiaa
open Go.RowKit Fl

section
variable {w : World} {q s c : Nat} {T : TypeId} {bs rs : List Bk} {b : Bk} {r u cost : Nat} {now : Int}

theorem ask_any (k : Int) (A : Hid (AskH w q s c T bs rs b r u cost)) :
    Calls Try.prog 29 #[.pointer (some ⟨q, 0, none⟩), .pointer (some ⟨s, c * 6, none⟩), .agg #[.int .i64 k, .int .i64 c, .float .f64 r, .float .f64 u, .float .f64 cost, .int .i64 now]] w (AskPost w q s c T bs rs b) := by
  by_cases hk : k < 0 ∨ 9 < k
  · exact ask_other k A hk
  · have h : k = 0 ∨ k = 1 ∨ k = 2 ∨ k = 3 ∨ k = 4 ∨ k = 5 ∨ k = 6 ∨ k = 7 ∨ k = 8 ∨ k = 9 := by omega
    rcases h with rfl | rfl | rfl | rfl | rfl | rfl | rfl | rfl | rfl | rfl
    · cases hq : quotaB r u with
      | false => exact ask0_no A (Lib.hid hq)
      | true => exact ask0_yes A (Lib.hid hq)
    · exact ask1 A
    · cases ht : timeB now with
      | false => exact ask2_no A (Lib.hid ht)
      | true => exact ask2_yes A (Lib.hid ht)
    · exact (match ht : timeB now with | false => ask3_noT A (Lib.hid ht) | true => (match hc : nnW cost with | false => ask3_noC A (Lib.hid ht) (Lib.hid hc) | true => ask3_yes A (Lib.hid ht) (Lib.hid hc)))
    · exact (match ht : timeB now with | false => ask4_noT A (Lib.hid ht) | true => (match hc : nnW cost with | false => ask4_noC A (Lib.hid ht) (Lib.hid hc) | true => ask4_yes A (Lib.hid ht) (Lib.hid hc)))
    · exact (match ht : timeB now with | false => ask5_noT A (Lib.hid ht) | true => (match hc : nnW cost with | false => ask5_noC A (Lib.hid ht) (Lib.hid hc) | true => ask5_yes A (Lib.hid ht) (Lib.hid hc)))
    · exact (match ht : timeB now with | false => ask6_noT A (Lib.hid ht) | true => (match hc : nnW cost with | false => ask6_noC A (Lib.hid ht) (Lib.hid hc) | true => ask6_yes A (Lib.hid ht) (Lib.hid hc)))
    · cases hc : nnW cost with
      | false => exact ask7_no A (Lib.hid hc)
      | true => exact ask7_yes A (Lib.hid hc)
    · exact ask8 A
    · cases ht : timeB now with
      | false => exact ask9_no A (Lib.hid ht)
      | true => exact ask9_yes A (Lib.hid ht)
end
end Go.Proofs.Ytbpnhpjcepgiiaa
