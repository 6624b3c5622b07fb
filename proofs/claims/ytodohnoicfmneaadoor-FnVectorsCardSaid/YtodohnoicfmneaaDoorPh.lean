import Derived.Test.YtodohnoicfmneaaDoorPs
/- Plain: digits in hexadecimal. Nothing of a program. -/
namespace Go.Rg
open Go Go.Fl

/-- What a letter counts for in hexadecimal; minus 1 if it does not. -/
def hexd (b : UInt8) : Int := if 48 ≤ b.toNat ∧ b.toNat ≤ 57 then b.toNat - 48 else if 97 ≤ b.toNat ∧ b.toNat ≤ 102 then b.toNat - 87 else -1
theorem hexd_ge (b : UInt8) : -1 ≤ hexd b ∧ hexd b ≤ 15 := by unfold hexd; split <;> (try split) <;> omega
def hexn : Int → List UInt8 → Option Int
  | n, [] => some n
  | n, b :: l => if hexd b < 0 then none else hexn (16 * n + hexd b) l
theorem hexn_bound : ∀ (l : List UInt8) {n m : Int}, 0 ≤ n → hexn n l = some m → 0 ≤ m ∧ m < (n + 1) * 16 ^ l.length := by
  intro l
  induction l with
  | nil => intro n m h0 h; cases h; exact ⟨h0, by simp; omega⟩
  | cons b l ih =>
    intro n m h0 h
    unfold hexn at h
    split at h
    · cases h
    · have hb := hexd_ge b
      obtain ⟨a1, a2⟩ := ih (by omega) h
      refine ⟨a1, ?_⟩
      have : (16 * n + hexd b + 1) * 16 ^ l.length ≤ (16 * n + 16) * 16 ^ l.length := Int.mul_le_mul_of_nonneg_right (by omega) (Int.pow_nonneg (by omega))
      have e : (n + 1) * 16 ^ (b :: l).length = (16 * n + 16) * 16 ^ l.length := by
        rw [List.length_cons, Int.pow_succ]
        rw [show (16 * n + 16 : Int) = (n + 1) * 16 by omega]
        rw [Int.mul_assoc, Int.mul_comm (16 ^ l.length) 16]
      omega
theorem hexd_find (b : UInt8) : sfind ([48, 49, 50, 51, 52, 53, 54, 55, 56, 57, 97, 98, 99, 100, 101, 102] : List UInt8) (b.toNat : Int) = hexd b := by
  have key : ∀ n : Fin 256, Lib.indexByte ([48, 49, 50, 51, 52, 53, 54, 55, 56, 57, 97, 98, 99, 100, 101, 102] : List UInt8) (UInt8.ofNat n.val) = hexd (UInt8.ofNat n.val) := by decide +kernel
  have h := key ⟨b.toNat, b.toNat_lt⟩
  have e : UInt8.ofNat b.toNat = b := by simp
  unfold sfind
  simp only at h
  rw [e] at h
  have e2 : (b.toNat : Int).toNat.toUInt8 = b := by
    rw [Int.toNat_natCast]
    simp
  rw [e2]; exact h

/-- The bits of a number, one not-a-number. -/
def bitsOf (x : Nat) : Int := bif fcmp .neq .f32 x x then 2143289344 else (x : Int)
/-- A number read out of eight digits. -/
def rdn (l : List UInt8) : Option Nat := if l.length = 8 then (hexn 0 l).bind fun n => if bitsOf (cn .f32 n.toNat) = n then some (cn .f32 n.toNat) else none else none
end Go.Rg
