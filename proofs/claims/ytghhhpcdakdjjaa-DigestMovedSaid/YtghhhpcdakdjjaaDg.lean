/- Plain facts about 64-bit numbers: Go's wrapped product, exclusive or and shift of uint64 values are those of BitVec 64; a product by an odd constant and an exclusive or with the upper half can be undone. No condition. -/
import Derived.Test.YtghhhpcdakdjjaaWMore
import Derived.IntWalk
namespace Go.Proofs.Ytghhhpcdakdjjaa.Dg
open Go.RowKit Go.Proofs.YtghhhpcdakdjjaaW.PrintWords Go.Proofs.YtghhhpcdakdjjaaW.PrintLast Go.Proofs.YtghhhpcdakdjjaaW.PrintMore

theorem w64 (n : Int) : IntKind.u64.wrap n = n % 18446744073709551616 := by
  simp [IntKind.wrap, IntKind.bits, IntKind.signed]

theorem w64_range (n : Int) : 0 ≤ IntKind.u64.wrap n ∧ IntKind.u64.wrap n < 18446744073709551616 := by
  rw [w64]; omega

theorem ofInt_nat (X : BitVec 64) : BitVec.ofInt 64 (X.toNat : Int) = X := by
  apply BitVec.eq_of_toNat_eq
  simp

theorem xor64 (X Y : BitVec 64) : Go.bits .xor .u64 (X.toNat : Int) (Y.toNat : Int) = ((X ^^^ Y).toNat : Int) := by
  have e : Go.bits .xor .u64 (X.toNat : Int) (Y.toNat : Int) = IntKind.u64.wrap (((BitVec.ofInt 64 (X.toNat : Int) ^^^ BitVec.ofInt 64 (Y.toNat : Int)).toNat : Nat) : Int) := rfl
  rw [e, ofInt_nat, ofInt_nat, w64]
  have := (X ^^^ Y).isLt
  omega

theorem mul64 (X C : BitVec 64) : IntKind.u64.wrap ((X.toNat : Int) * (C.toNat : Int)) = ((X * C).toNat : Int) := by
  rw [w64, BitVec.toNat_mul]
  have : ((X.toNat * C.toNat % 2 ^ 64 : Nat) : Int) = ((X.toNat * C.toNat : Nat) : Int) % 18446744073709551616 := by omega
  rw [this]
  simp

theorem shr64 (X : BitVec 64) : (X.toNat : Int) / (4294967296 : Int) = ((X >>> 32).toNat : Int) := by
  rw [BitVec.toNat_ushiftRight, Nat.shiftRight_eq_div_pow]
  omega

/-- One round over a byte. -/
def dstep (X : BitVec 64) (b : UInt8) : BitVec 64 := (X ^^^ BitVec.ofNat 64 b.toNat) * 1099511628211#64
/-- One round at the end. -/
def dmix (X : BitVec 64) : BitVec 64 := (X ^^^ (X >>> 32)) * 11400714819323198485#64
/-- The digest of bytes. -/
def dsum (l : List UInt8) : BitVec 64 := dmix (dmix (dmix (l.foldl dstep 14695981039346656037#64)))

theorem step_int (X : BitVec 64) (b : UInt8) : IntKind.u64.wrap ((Go.bits .xor .u64 (X.toNat : Int) (IntKind.u64.wrap (b.toNat : Int))) * 1099511628211) = ((dstep X b).toNat : Int) := by
  have hb : IntKind.u64.wrap (b.toNat : Int) = ((BitVec.ofNat 64 b.toNat).toNat : Int) := by
    have := b.toNat_lt
    rw [w64, BitVec.toNat_ofNat]; omega
  rw [hb, xor64]
  exact mul64 _ 1099511628211#64

theorem mix_int (X : BitVec 64) : IntKind.u64.wrap ((Go.bits .xor .u64 (X.toNat : Int) ((X.toNat : Int) / (4294967296 : Int))) * 11400714819323198485) = ((dmix X).toNat : Int) := by
  rw [shr64, xor64]
  exact mul64 _ 11400714819323198485#64

theorem quo_int (X : BitVec 64) : IntKind.u64.wrap (Int.tdiv (X.toNat : Int) 4294967296) = (X.toNat : Int) / (4294967296 : Int) :=
  IntWalk.u64_quo _ _ (by have := X.isLt; omega)

theorem odd_inj (C D X Y : BitVec 64) (h : C * D = 1#64) (e : X * C = Y * C) : X = Y := by
  have : X * C * D = Y * C * D := by rw [e]
  rw [BitVec.mul_assoc, BitVec.mul_assoc, h, BitVec.mul_one, BitVec.mul_one] at this
  exact this

theorem xor_inj (X Y Z : BitVec 64) (e : X ^^^ Z = Y ^^^ Z) : X = Y := by
  have : X ^^^ Z ^^^ Z = Y ^^^ Z ^^^ Z := by rw [e]
  simpa [BitVec.xor_assoc] using this

theorem half_inj (X Y : BitVec 64) (e : X ^^^ (X >>> 32) = Y ^^^ (Y >>> 32)) : X = Y := by
  have f : ∀ Z : BitVec 64, (Z ^^^ (Z >>> 32)) ^^^ ((Z ^^^ (Z >>> 32)) >>> 32) = Z := by
    intro Z
    rw [BitVec.ushiftRight_xor_distrib, ← BitVec.shiftRight_add]
    have : Z >>> (32 + 32) = 0#64 := by
      apply BitVec.eq_of_toNat_eq
      rw [BitVec.toNat_ushiftRight, Nat.shiftRight_eq_div_pow]
      have := Z.isLt
      simp; omega
    rw [this]
    simp [BitVec.xor_assoc]
  rw [← f X, e, f Y]

theorem mix_inj {X Y : BitVec 64} (e : dmix X = dmix Y) : X = Y :=
  half_inj _ _ (odd_inj _ 17428512612931826493#64 _ _ (by decide) e)

theorem step_inj {X Y : BitVec 64} {b : UInt8} (e : dstep X b = dstep Y b) : X = Y :=
  xor_inj _ _ _ (odd_inj _ 14886173955864302971#64 _ _ (by decide) e)

theorem step_byte {X : BitVec 64} {b c : UInt8} (e : dstep X b = dstep X c) : b = c := by
  have h := odd_inj _ 14886173955864302971#64 _ _ (by decide) e
  have h2 : BitVec.ofNat 64 b.toNat = BitVec.ofNat 64 c.toNat := by
    rw [BitVec.xor_comm X, BitVec.xor_comm X] at h
    exact xor_inj _ _ _ h
  have h3 := congrArg BitVec.toNat h2
  rw [BitVec.toNat_ofNat, BitVec.toNat_ofNat] at h3
  have := b.toNat_lt
  have := c.toNat_lt
  exact UInt8.toNat_inj.1 (by omega)

theorem fold_inj {X Y : BitVec 64} : ∀ (l : List UInt8), l.foldl dstep X = l.foldl dstep Y → X = Y
  | [], e => e
  | b :: l, e => step_inj (fold_inj (X := dstep X b) (Y := dstep Y b) l e)

theorem sum_inj {l m : List UInt8} (e : dsum l = dsum m) : l.foldl dstep 14695981039346656037#64 = m.foldl dstep 14695981039346656037#64 :=
  mix_inj (mix_inj (mix_inj e))

/-- Bytes that differ at one place only have different digests. -/
theorem sum_one (p q : List UInt8) (b c : UInt8) (e : dsum (p ++ b :: q) = dsum (p ++ c :: q)) : b = c := by
  have h := sum_inj e
  rw [List.foldl_append, List.foldl_append, List.foldl_cons, List.foldl_cons] at h
  exact step_byte (fold_inj q h)
end Go.Proofs.Ytghhhpcdakdjjaa.Dg
