/- sha: the digest. -/
import Derived.Test.YtomgdfoahfhijaaOct
set_option linter.unusedVariables false
set_option linter.unusedSimpArgs false
namespace Go.Proofs.Ytomgdfoahfhijaa
open Go.RowKit

/-! ### numbers of 32 bits -/
theorem u32_shr (x : UInt32) (n : Nat) (hn : n < 32) : (x.toNat : Int) / 2 ^ n = ((x >>> UInt32.ofNat n).toNat : Int) := by
  rw [UInt32.toNat_shiftRight, Nat.shiftRight_eq_div_pow, UInt32.toNat_ofNat', Nat.mod_mod_of_dvd _ (by decide), Nat.mod_eq_of_lt (by omega)]
  simp
theorem u32_shl (x : UInt32) (n : Nat) (hn : n < 32) : (x.toNat : Int) * 2 ^ n % 4294967296 = ((x <<< UInt32.ofNat n).toNat : Int) := by
  rw [UInt32.toNat_shiftLeft, Nat.shiftLeft_eq, UInt32.toNat_ofNat', Nat.mod_mod_of_dvd _ (by decide), Nat.mod_eq_of_lt (by omega : n < 32)]
  simp
theorem u32_ofInt (x : UInt32) : BitVec.ofInt 32 (x.toNat : Int) = x.toBitVec := by
  apply BitVec.eq_of_toNat_eq
  simp
theorem u32_wrap (x : UInt32) : IntKind.u32.wrap (x.toNat : Int) = (x.toNat : Int) := by
  have := x.toNat_lt
  simp [IntKind.wrap, IntKind.signed, IntKind.bits]
  omega
theorem u32_or (x y : UInt32) : bits .or .u32 (x.toNat : Int) (y.toNat : Int) = ((x ||| y).toNat : Int) := by
  refine Eq.trans ?_ (u32_wrap (x ||| y))
  simp only [bits]
  rw [show IntKind.u32.bits = 32 from rfl, u32_ofInt, u32_ofInt]
  rfl
theorem u32_and (x y : UInt32) : bits .and .u32 (x.toNat : Int) (y.toNat : Int) = ((x &&& y).toNat : Int) := by
  refine Eq.trans ?_ (u32_wrap (x &&& y))
  simp only [bits]
  rw [show IntKind.u32.bits = 32 from rfl, u32_ofInt, u32_ofInt]
  rfl
theorem u32_xor (x y : UInt32) : bits .xor .u32 (x.toNat : Int) (y.toNat : Int) = ((x ^^^ y).toNat : Int) := by
  refine Eq.trans ?_ (u32_wrap (x ^^^ y))
  simp only [bits]
  rw [show IntKind.u32.bits = 32 from rfl, u32_ofInt, u32_ofInt]
  rfl
theorem u32_add (x y : UInt32) : ((x.toNat : Int) + (y.toNat : Int)) % 4294967296 = ((x + y).toNat : Int) := by
  rw [UInt32.toNat_add]; simp
theorem u32_add2 (x y : UInt32) : IntKind.u32.wrap ((x.toNat : Int) + (y.toNat : Int)) = ((x + y).toNat : Int) := by
  rw [← u32_add]
  simp [IntKind.wrap, IntKind.signed, IntKind.bits]

def rotr (x : UInt32) (n : Nat) : UInt32 := (x >>> UInt32.ofNat n) ||| (x <<< UInt32.ofNat (32 - n))
def pushd (x : UInt32) (n : Nat) : UInt32 := x >>> UInt32.ofNat n

set_option maxRecDepth 100000 in
theorem shaPushed (w : World) (x : UInt32) (n : Nat) (hn : n < 32) :
    Calls Try.prog 94 #[.int .u32 x.toNat, .int .i64 n] w fun e w' => e = .returned (.int .u32 (pushd x n).toNat) ∧ w = w' := by
  have hx := x.toNat_lt
  go_enter Try.func94, Try.ntmps94
  go_wp2
  go_ret
  exact ⟨by simp only [pushd]; rw [← u32_shr x n hn]; rfl, rfl⟩
set_option maxRecDepth 100000 in
theorem shaTurned (w : World) (x : UInt32) (n : Nat) (hn : n < 32) (hn0 : 0 < n) :
    Calls Try.prog 95 #[.int .u32 x.toNat, .int .i64 n] w fun e w' => e = .returned (.int .u32 (rotr x n).toNat) ∧ ∃ m, w' = w.drewN m := by
  have hx := x.toNat_lt
  go_enter Try.func95, Try.ntmps95
  go_wp2
  have h32 : (32 : Int) - n = ((32 - n : Nat) : Int) := by omega
  go_quiet (fail)
  go_wp2
  go_ret
  refine ⟨?_, nq, rfl⟩
  show Ending.returned (.int .u32 (bits .or .u32 ((x.toNat : Int) / 2 ^ n) ((x.toNat : Int) * 2 ^ (32 - n) % 4294967296))) = _
  rw [u32_shr x n hn, u32_shl x (32 - n) (by omega), u32_or]
  rfl

/-- A mix's block: three numbers and what comes third. -/
def mixC (a b c : Nat) (f : Nat) : Array Value := #[.int .i64 a, .int .i64 b, .int .i64 c, .func (.func f) #[] #[]]
def mixB (a b c : Nat) (last : UInt32 → Nat → UInt32) (x : UInt32) : UInt32 := rotr x a ^^^ rotr x b ^^^ last x c
set_option maxRecDepth 100000 in
set_option maxHeartbeats 1000000 in
theorem mixPushed (w : World) (a b c : Nat) (x : UInt32) (ha : a < 32) (hb : b < 32) (hc : c < 32) (ha0 : 0 < a) (hb0 : 0 < b) :
    Calls Try.prog 97 #[.agg (mixC a b c 94), .int .u32 x.toNat] w fun e w' => e = .returned (.int .u32 (mixB a b c pushd x).toNat) ∧ Upd NoS w w' := by
  unfold mixC
  go_enter Try.func97, Try.ntmps97
  go_wp2
  go_quiet (first
    | (go_at_call 95; exact Calls.quiet_of (shaTurned _ x _ ha ha0))
    | (go_at_call 95; exact Calls.quiet_of (shaTurned _ x _ hb hb0))
    | (go_at_call 94; exact Calls.quiet_of_same ((shaPushed _ x _ hc).mono (fun _ _ h => ⟨h.1, h.2.symm⟩))))
  simp only [u32_xor]
  go_wp2
  go_ret
  exact ⟨rfl, ((Upd.refl NoS w).alloc _).drewN _⟩
set_option maxRecDepth 100000 in
set_option maxHeartbeats 1000000 in
theorem mixTurned (w : World) (a b c : Nat) (x : UInt32) (ha : a < 32) (hb : b < 32) (hc : c < 32) (ha0 : 0 < a) (hb0 : 0 < b) (hc0 : 0 < c) (hab : a ≠ b) (hac : a ≠ c) (hbc : b ≠ c) :
    Calls Try.prog 97 #[.agg (mixC a b c 95), .int .u32 x.toNat] w fun e w' => e = .returned (.int .u32 (mixB a b c rotr x).toNat) ∧ Upd NoS w w' := by
  unfold mixC
  go_enter Try.func97, Try.ntmps97
  go_wp2
  go_quiet ((go_at_call 95; exact Calls.quiet_of (shaTurned _ x _ (by assumption) (by assumption))))
  simp only [u32_xor]
  go_wp2
  go_ret
  exact ⟨rfl, ((Upd.refl NoS w).alloc _).drewN _⟩
theorem mixS0 (w : World) (x : UInt32) : Calls Try.prog 97 #[.agg #[.int .i64 7, .int .i64 18, .int .i64 3, .func (.func 94) #[] #[]], .int .u32 x.toNat] w fun e w' => e = .returned (.int .u32 (mixB 7 18 3 pushd x).toNat) ∧ Upd NoS w w' :=
  mixPushed w 7 18 3 x (by decide) (by decide) (by decide) (by decide) (by decide)
theorem mixS1 (w : World) (x : UInt32) : Calls Try.prog 97 #[.agg #[.int .i64 17, .int .i64 19, .int .i64 10, .func (.func 94) #[] #[]], .int .u32 x.toNat] w fun e w' => e = .returned (.int .u32 (mixB 17 19 10 pushd x).toNat) ∧ Upd NoS w w' :=
  mixPushed w 17 19 10 x (by decide) (by decide) (by decide) (by decide) (by decide)
theorem mixB0 (w : World) (x : UInt32) : Calls Try.prog 97 #[.agg #[.int .i64 2, .int .i64 13, .int .i64 22, .func (.func 95) #[] #[]], .int .u32 x.toNat] w fun e w' => e = .returned (.int .u32 (mixB 2 13 22 rotr x).toNat) ∧ Upd NoS w w' :=
  mixTurned w 2 13 22 x (by decide) (by decide) (by decide) (by decide) (by decide) (by decide) (by decide) (by decide) (by decide)
theorem mixB1 (w : World) (x : UInt32) : Calls Try.prog 97 #[.agg #[.int .i64 6, .int .i64 11, .int .i64 25, .func (.func 95) #[] #[]], .int .u32 x.toNat] w fun e w' => e = .returned (.int .u32 (mixB 6 11 25 rotr x).toNat) ∧ Upd NoS w w' :=
  mixTurned w 6 11 25 x (by decide) (by decide) (by decide) (by decide) (by decide) (by decide) (by decide) (by decide) (by decide)
end Go.Proofs.Ytomgdfoahfhijaa
