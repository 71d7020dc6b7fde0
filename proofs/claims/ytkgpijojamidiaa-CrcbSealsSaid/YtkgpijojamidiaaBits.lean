/- How the model's integers stand to registers of 32 bits: plain equations, no program is named. -/
import Derived.Test.YtkgpijojamidiaaBase
import Derived.Test.YtkgpijojamidiaaMath
namespace Go.Proofs.Ytkgpijojamidiaa
open Go.RowKit

theorem bits32_xor (a b : Int) : bits .xor .u32 a b = ((BitVec.ofInt 32 a ^^^ BitVec.ofInt 32 b).toNat : Int) := by
  show IntKind.u32.wrap ((BitVec.ofInt 32 a ^^^ BitVec.ofInt 32 b).toNat : Int) = _
  have := (BitVec.ofInt 32 a ^^^ BitVec.ofInt 32 b).isLt
  rw [IntKind.wrap_u32]; omega
theorem bits32_and (a b : Int) : bits .and .u32 a b = ((BitVec.ofInt 32 a &&& BitVec.ofInt 32 b).toNat : Int) := by
  show IntKind.u32.wrap ((BitVec.ofInt 32 a &&& BitVec.ofInt 32 b).toNat : Int) = _
  have := (BitVec.ofInt 32 a &&& BitVec.ofInt 32 b).isLt
  rw [IntKind.wrap_u32]; omega
theorem ofInt_toNat (r : W32) : BitVec.ofInt 32 (r.toNat : Int) = r := by
  rw [BitVec.ofInt_natCast]; simp
theorem ofInt_mod (x : Int) : BitVec.ofInt 32 (x % 4294967296) = BitVec.ofInt 32 x := by
  apply BitVec.eq_of_toInt_eq
  simp only [BitVec.toInt_ofInt]
  have : (x % 4294967296).bmod (2 ^ 32) = x.bmod (2 ^ 32) := by
    rw [show (4294967296 : Int) = ((2 ^ 32 : Nat) : Int) by decide]
    exact Int.emod_bmod _ _
  exact this
theorem ofInt_shl1 (r : W32) : BitVec.ofInt 32 ((r.toNat : Int) * 2) = r <<< 1 := by
  have h := r.isLt
  apply BitVec.eq_of_toNat_eq
  rw [show (r.toNat : Int) * 2 = ((r.toNat * 2 : Nat) : Int) by omega, BitVec.ofInt_natCast, BitVec.toNat_ofNat, BitVec.toNat_shiftLeft, Nat.shiftLeft_eq]
theorem ofInt_neg31 (r : W32) : BitVec.ofInt 32 (-((r.toNat : Int) / 2147483648)) = -(r >>> 31) := by
  have h := r.isLt
  rw [BitVec.ofInt_neg]
  congr 1
  apply BitVec.eq_of_toNat_eq
  rw [show (r.toNat : Int) / 2147483648 = ((r.toNat / 2147483648 : Nat) : Int) by omega, BitVec.ofInt_natCast, BitVec.toNat_ofNat, BitVec.toNat_ushiftRight, Nat.shiftRight_eq_div_pow]
  omega
theorem step_bits (r : W32) : bits .xor .u32 ((r.toNat : Int) * 2 % 4294967296) (bits .and .u32 79764919 (-((r.toNat : Int) / 2147483648) % 4294967296)) = ((step1 r).toNat : Int) := by
  rw [bits32_xor, bits32_and, ofInt_toNat, ofInt_mod, ofInt_mod, ofInt_shl1, ofInt_neg31]
  rfl
theorem stepR_hi (r : W32) (h : 2147483648 ≤ (r.toNat : Int)) : bits .xor .u32 ((r.toNat : Int) * 2 % 4294967296) 79764919 = ((step1 r).toNat : Int) := by
  rw [bits32_xor, ofInt_mod, ofInt_shl1, step1_eq]
  unfold stepR
  rw [if_pos (by omega)]
  rfl
theorem stepR_lo (r : W32) (h : ¬ 2147483648 ≤ (r.toNat : Int)) : (r.toNat : Int) * 2 % 4294967296 = ((step1 r).toNat : Int) := by
  rw [step1_eq]
  unfold stepR
  rw [if_neg (by omega), BitVec.toNat_shiftLeft, Nat.shiftLeft_eq]
  omega
theorem ofInt_hi8 (c : UInt8) : BitVec.ofInt 32 ((c.toNat : Int) * 16777216) = hi8 c := by
  have hc := c.toNat_lt
  unfold hi8
  apply BitVec.eq_of_toNat_eq
  rw [show (c.toNat : Int) * 16777216 = ((c.toNat * 16777216 : Nat) : Int) by omega, BitVec.ofInt_natCast, BitVec.toNat_ofNat, BitVec.toNat_shiftLeft, BitVec.toNat_ofNat, Nat.shiftLeft_eq]
  rw [Nat.mod_eq_of_lt (show c.toNat < 2 ^ 32 by omega)]
theorem xor_hi8 (r : W32) (c : UInt8) : bits .xor .u32 (r.toNat : Int) ((c.toNat : Int) * 16777216 % 4294967296) = ((r ^^^ hi8 c).toNat : Int) := by
  rw [bits32_xor, ofInt_toNat, ofInt_mod, ofInt_hi8]
theorem not_bits (r : W32) : bits .xor .u32 4294967295 (r.toNat : Int) = ((~~~r).toNat : Int) := by
  rw [bits32_xor, ofInt_toNat, show BitVec.ofInt 32 4294967295 = BitVec.allOnes 32 by decide, BitVec.allOnes_xor]
theorem not_bits' (r : W32) : bits .xor .u32 (r.toNat : Int) 4294967295 = ((~~~r).toNat : Int) := by
  rw [bits32_xor, ofInt_toNat, show BitVec.ofInt 32 4294967295 = BitVec.allOnes 32 by decide, BitVec.xor_allOnes]
theorem xor_bits (a b : W32) : bits .xor .u32 (a.toNat : Int) (b.toNat : Int) = ((a ^^^ b).toNat : Int) := by
  rw [bits32_xor, ofInt_toNat, ofInt_toNat]
/-- Any number of the kind is a register. -/
theorem reg_of (x : Int) (h0 : 0 ≤ x) (h1 : x < 4294967296) : ∃ r : W32, x = (r.toNat : Int) := by
  refine ⟨BitVec.ofInt 32 x, ?_⟩
  obtain ⟨n, rfl⟩ := Int.eq_ofNat_of_zero_le h0
  rw [BitVec.ofInt_natCast, BitVec.toNat_ofNat]; omega

end Go.Proofs.Ytkgpijojamidiaa
