/- How many bits are set, as the library counts them: the plain law; no program in sight. -/
import Derived.Test.YtehfjfaanhdbaaaSyR
import Derived.Test.YtehfjfaanhdbaaaG1
namespace Go.Proofs.Ytehfjfaanhdbaaa.Sy
set_option linter.unusedVariables false

theorem cntN_add {a : Nat} {p : Nat → Bool} : ∀ b, cntN (a + b) p = cntN a p + cntN b (fun j => p (a + j))
  | 0 => by simp [cntN]
  | b + 1 => by
    rw [← Nat.add_assoc, cntN, cntN_add b, cntN]
    cases p (a + b) <;> simp only [cond_true, cond_false] <;> omega
theorem tbl_at : ∀ b, b < 256 → tbl1024256[b]? = some (BitVec.ofNat 8 (cntN 8 fun i => b.testBit i)) := by decide +kernel
theorem byte_eq {y : BitVec 32} {x : BitVec 32} {o : Nat} (hy : y.toNat < 256) (hb : ∀ i, i < 8 → y.getLsbD i = x.getLsbD (o + i)) : geti tbl1024256 ((y.toNat : Int)) = some (BitVec.ofNat 8 (cntN 8 fun i => x.getLsbD (o + i))) := by
  rw [geti_nat?, tbl_at _ hy]
  congr 2
  exact cntN_congr fun i hi => hb i hi
theorem and255 (y : BitVec 32) : (y &&& 255#32).toNat < 256 := by
  rw [BitVec.toNat_and]
  exact Nat.lt_of_le_of_lt Nat.and_le_right (by decide)
theorem bit255 : ∀ i, i < 8 → (255#32).getLsbD i = true := by decide
theorem onesCount_eq (x : BitVec 32) : math_bits_OnesCount32 x = some (cntN 32 x.getLsbD : Int) := by
  unfold math_bits_OnesCount32
  have h24 : (x >>> 24).toNat < 256 := by
    rw [BitVec.toNat_ushiftRight, Nat.shiftRight_eq_div_pow]
    have := x.isLt
    omega
  rw [byte_eq (x := x) (o := 24) h24 (fun i _ => by rw [BitVec.getLsbD_ushiftRight]), Option.bind_some,
    byte_eq (x := x) (o := 16) (and255 _) (fun i hi => by rw [BitVec.getLsbD_and, bit255 i hi, Bool.and_true, BitVec.getLsbD_ushiftRight]), Option.bind_some,
    byte_eq (x := x) (o := 8) (and255 _) (fun i hi => by rw [BitVec.getLsbD_and, bit255 i hi, Bool.and_true, BitVec.getLsbD_ushiftRight]), Option.bind_some,
    byte_eq (x := x) (o := 0) (and255 _) (fun i hi => by rw [BitVec.getLsbD_and, bit255 i hi, Bool.and_true, Nat.zero_add]), Option.bind_some]
  have e : cntN 32 x.getLsbD = cntN 8 (fun i => x.getLsbD (0 + i)) + cntN 8 (fun i => x.getLsbD (8 + i)) + cntN 8 (fun i => x.getLsbD (16 + i)) + cntN 8 (fun i => x.getLsbD (24 + i)) := by
    have h1 := cntN_add (a := 24) (p := x.getLsbD) 8
    have h2 := cntN_add (a := 16) (p := x.getLsbD) 8
    have h3 := cntN_add (a := 8) (p := x.getLsbD) 8
    have h4 := cntN_add (a := 0) (p := x.getLsbD) 8
    simp only [cntN, Nat.zero_add] at h4
    rw [h1, h2, h3]
    simp only [Nat.zero_add]
  rw [e]
  have l0 := cntN_le (n := 8) (p := fun i => x.getLsbD (0 + i))
  have l1 := cntN_le (n := 8) (p := fun i => x.getLsbD (8 + i))
  have l2 := cntN_le (n := 8) (p := fun i => x.getLsbD (16 + i))
  have l3 := cntN_le (n := 8) (p := fun i => x.getLsbD (24 + i))
  generalize cntN 8 (fun i => x.getLsbD (0 + i)) = a at *
  generalize cntN 8 (fun i => x.getLsbD (8 + i)) = b at *
  generalize cntN 8 (fun i => x.getLsbD (16 + i)) = c at *
  generalize cntN 8 (fun i => x.getLsbD (24 + i)) = d at *
  congr 1
  simp only [BitVec.toNat_add, BitVec.toNat_ofNat]
  omega
end Go.Proofs.Ytehfjfaanhdbaaa.Sy
