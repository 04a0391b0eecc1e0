/- What is read of what was written (plain). -/
import Derived.Test.YtomgdfoahfhijaaWca
set_option linter.unusedVariables false
set_option linter.unusedSimpArgs false
namespace Go.Proofs.Ytomgdfoahfhijaa

theorem seal_drop4 (l : List UInt8) : (sealOf l).drop 4 = l := by
  unfold sealOf
  rw [List.drop_append_of_le_length (by simp [length_shaDigest]), List.drop_of_length_le (by simp [length_shaDigest])]
  rfl
theorem toNat_beB (x : Int) (w j : Nat) : ((beB x w j).toNat : Int) = x / 2 ^ (8 * (w - 1 - j)) % 256 := by
  unfold beB
  have h0 := Int.emod_nonneg (x / 2 ^ (8 * (w - 1 - j))) (show (256 : Int) ≠ 0 by decide)
  have h1 := Int.emod_lt_of_pos (x / 2 ^ (8 * (w - 1 - j))) (show (0 : Int) < 256 by decide)
  rw [UInt8.toNat_ofNat']
  omega
theorem beN_be4 {x : Int} (h0 : 0 ≤ x) (h1 : x < 4294967296) : ((beN (be x 4) : Nat) : Int) = x := by
  have e : be x 4 = [beB x 4 0, beB x 4 1, beB x 4 2, beB x 4 3] := rfl
  have b0 := toNat_beB x 4 0
  have b1 := toNat_beB x 4 1
  have b2 := toNat_beB x 4 2
  have b3 := toNat_beB x 4 3
  simp only [Nat.reduceSub, Nat.reduceMul, Int.reducePow, Int.pow_zero, Int.ediv_one] at b0 b1 b2 b3
  rw [e]
  simp only [beN, List.foldl_cons, List.foldl_nil]
  omega
theorem beN_be2 {x : Int} (h0 : 0 ≤ x) (h1 : x < 65536) : ((beN (be x 2) : Nat) : Int) = x := by
  have e : be x 2 = [beB x 2 0, beB x 2 1] := rfl
  have b0 := toNat_beB x 2 0
  have b1 := toNat_beB x 2 1
  simp only [Nat.reduceSub, Nat.reduceMul, Int.reducePow, Int.pow_zero, Int.ediv_one] at b0 b1
  rw [e]
  simp only [beN, List.foldl_cons, List.foldl_nil]
  omega
theorem titleN_title {t n : Int} (h0 : 0 ≤ n) (h1 : n < 4294967296) : titleN (titleOf t n) = n := by
  unfold titleN titleOf
  rw [seal_drop4]
  have : ((be n 4 ++ be t 4 ++ [83, 65, 70, 69, 72, 79, 85, 83, 69] ++ List.replicate 43 0).take 4 : List UInt8) = be n 4 := by
    rw [List.append_assoc, List.append_assoc, List.take_append_of_le_length (by simp [length_be]), List.take_of_length_le (by simp [length_be])]
  rw [this]
  exact beN_be4 h0 h1
theorem titleT_title {t n : Int} (h0 : 0 ≤ t) (h1 : t < 4294967296) : titleT (titleOf t n) = t := by
  unfold titleT titleOf
  rw [seal_drop4]
  have : (((be n 4 ++ be t 4 ++ [83, 65, 70, 69, 72, 79, 85, 83, 69] ++ List.replicate 43 0).drop 4).take 4 : List UInt8) = be t 4 := by
    rw [List.append_assoc, List.append_assoc, List.drop_append_of_le_length (by simp [length_be]), List.drop_of_length_le (by simp [length_be]), List.nil_append, List.take_append_of_le_length (by simp [length_be]), List.take_of_length_le (by simp [length_be])]
  rw [this]
  exact beN_be4 h0 h1
theorem leaf_size {t m n : Int} (x : List UInt8) (h0 : 0 ≤ n) (h1 : n < 65536) : ((sizeAt (leafOf t m n x).1 : Nat) : Int) = n := by
  unfold sizeAt leafOf leafB
  simp only
  have e : ((sealOf (be t 4 ++ be m 4 ++ be n 2 ++ be (x.length) 2 ++ pad48 x)).drop 12).take 2 = be n 2 := by
    rw [show (12 : Nat) = 4 + 8 by rfl, ← List.drop_drop, seal_drop4]
    rw [List.append_assoc, List.append_assoc, List.drop_append_of_le_length (by simp [length_be]), List.drop_of_length_le (by simp [length_be]), List.nil_append, List.take_append_of_le_length (by simp [length_be]), List.take_of_length_le (by simp [length_be])]
  rw [e]
  exact beN_be2 h0 h1
theorem leaf_body (t m n : Int) (x : List UInt8) : (leafOf t m n x).1.drop 16 = pad48 x := by
  unfold leafOf leafB
  simp only
  rw [show (16 : Nat) = 4 + 12 by rfl, ← List.drop_drop, seal_drop4, List.drop_append_of_le_length (by simp [length_be]), List.drop_of_length_le (by simp [length_be]), List.nil_append]
theorem leaves_flatN (t m n : Int) : ∀ (N : Nat) (x : List UInt8), x.length ≤ 48 * (N + 1) → ∃ k, ((leavesOf t m n x).map Subtype.val).flatMap (fun s => s.drop 16) = x ++ List.replicate k 0
  | 0, x, hN => ⟨48 - x.length, by rw [leavesOf_le (by omega), List.map_singleton, List.flatMap_singleton, leaf_body, pad48, List.take_of_length_le (by omega)]⟩
  | N + 1, x, hN => by
    by_cases h : x.length ≤ 48
    · refine ⟨48 - x.length, ?_⟩
      rw [leavesOf_le h, List.map_singleton, List.flatMap_singleton, leaf_body, pad48, List.take_of_length_le h]
    · obtain ⟨k, hk⟩ := leaves_flatN t m n N (x.drop 48) (by rw [List.length_drop]; omega)
      refine ⟨k, ?_⟩
      rw [leavesOf_gt h, List.map_cons, List.flatMap_cons, hk, leaf_body, pad48, show 48 - x.length = 0 by omega, List.replicate_zero, List.append_nil, ← List.append_assoc, List.take_append_drop]
theorem leaves_flat (t m n : Int) (x : List UInt8) : ∃ k, ((leavesOf t m n x).map Subtype.val).flatMap (fun s => s.drop 16) = x ++ List.replicate k 0 := leaves_flatN t m n x.length x (by omega)
/-- What was laid down stands. -/
theorem stands_leaves {t : Int} {f : List (List UInt8)} {at_ number : Nat} {b : List UInt8} (h4 : b.length ≤ 40000) (hf : at_ + (sectorsOf b.length).toNat ≤ f.length)
    (hd : (f.drop at_).take (sectorsOf b.length).toNat = (leavesOf t number b.length b).map Subtype.val) : standsOf t f at_ number = some b := by
  obtain ⟨hs1, hs2⟩ := sectors_le h4
  obtain ⟨r, hr⟩ := leavesOf_cons t number b.length b
  have h0 : f[at_]? = some (leafOf t number b.length b).1 := by
    have h1 := congrArg (fun l => l[0]?) hd
    simp only [hr, List.map_cons, List.getElem?_cons_zero] at h1
    rw [List.getElem?_take] at h1
    split at h1
    · rw [List.getElem?_drop, Nat.add_zero] at h1
      exact h1
    · cases h1
  have hsz : sizeAt (leafOf t number b.length b).1 = b.length := by
    have := leaf_size (t := t) (m := number) b (n := (b.length : Int)) (by omega) (by omega)
    omega
  obtain ⟨k, hk⟩ := leaves_flat t number b.length b
  have hall : (allOf f at_ (sectorsOf b.length).toNat).take b.length = b := by
    unfold allOf
    rw [hd, hk, List.take_left]
  unfold standsOf
  rw [h0]
  simp only [hsz]
  rw [if_neg (by omega), hall, if_pos hd.symm]
theorem stands_end {t : Int} {f : List (List UInt8)} {number : Nat} : standsOf t f f.length number = none := by
  unfold standsOf
  rw [List.getElem?_eq_none (Nat.le_refl _)]
end Go.Proofs.Ytomgdfoahfhijaa
