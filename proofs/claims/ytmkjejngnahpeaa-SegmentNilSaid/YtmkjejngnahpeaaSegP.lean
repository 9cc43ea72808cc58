/- Segment names: the plain laws (lists of bytes and numbers; no program). -/
import Derived.Test.YtmkjejngnahpeaaKit
namespace Go.Proofs.Ytmkjejngnahpeaa

def hexd (d : Nat) : UInt8 := if d < 10 then UInt8.ofNat (48 + d) else UInt8.ofNat (87 + d)
/-- the last n hexadecimal digits of b -/
def hex : Nat → Nat → List UInt8
  | 0, _ => []
  | n + 1, b => hex n (b / 16) ++ [hexd (b % 16)]
theorem hex_length : ∀ n b, (hex n b).length = n
  | 0, _ => rfl
  | n + 1, b => by simp [hex, hex_length n]
theorem hex_cons : ∀ n b, hex (n + 1) b = hexd (b / 16 ^ n % 16) :: hex n b
  | 0, b => by simp [hex]
  | n + 1, b => by
    rw [hex, hex_cons n, hex, List.cons_append]
    congr 2
    rw [Nat.div_div_eq_div_mul, Nat.pow_succ', Nat.mul_comm]
theorem hex_down (k b : Nat) (h : k < 14) : hex (k + 1) (b / 16 ^ (13 - k)) = hex k (b / 16 ^ (14 - k)) ++ [hexd (b / 16 ^ (13 - k) % 16)] := by
  rw [hex, Nat.div_div_eq_div_mul, ← Nat.pow_succ, show (13 - k).succ = 14 - k by omega]


theorem i64_and15 (n : Int) : bits .and .i64 n 15 = n % 16 := by
  have h15 : (BitVec.ofInt 64 15).toNat = 2 ^ 4 - 1 := by decide
  have key : (BitVec.ofInt 64 n &&& BitVec.ofInt 64 15).toNat = (n % ((2 ^ 64 : Nat) : Int)).toNat % 2 ^ 4 := by
    rw [BitVec.toNat_and, BitVec.toNat_ofInt, h15, Nat.and_two_pow_sub_one_eq_mod]
  show IntKind.i64.wrap ((BitVec.ofInt 64 n &&& BitVec.ofInt 64 15).toNat : Nat) = n % 16
  rw [key, IntKind.wrap_i64]
  omega
theorem digit_bits (b k : Nat) : bits .and .i64 ((b : Int) / 2 ^ (4 * k)) 15 = ((b / 16 ^ k % 16 : Nat) : Int) := by
  rw [i64_and15]
  have h : (2 : Int) ^ (4 * k) = ((16 ^ k : Nat) : Int) := by
    rw [show (16 : Nat) = 2 ^ 4 from rfl, ← Nat.pow_mul]
    simp
  rw [h]
  omega


def hexs : ByteArray := ⟨#[48, 49, 50, 51, 52, 53, 54, 55, 56, 57, 97, 98, 99, 100, 101, 102]⟩
theorem hexs_fin : ∀ d : Fin 16, hexs[d.val]'d.isLt = hexd d.val := by decide
theorem hexs_get (d : Nat) (h : d < 16) : hexs[d]'h = hexd d := hexs_fin ⟨d, h⟩

theorem size_dash (s : ByteArray) : (s ++ (⟨#[45]⟩ : ByteArray)).size = s.size + 1 := by simp [ByteArray.size_append]; rfl
theorem data_dash (s : ByteArray) : (s ++ (⟨#[45]⟩ : ByteArray)).data.toList = s.data.toList ++ [45] := by simp

end Go.Proofs.Ytmkjejngnahpeaa
