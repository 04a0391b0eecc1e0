/- sha: the constants. -/
import Derived.Test.YtomgdfoahfhijaaSha
set_option linter.unusedVariables false
set_option linter.unusedSimpArgs false
namespace Go.Proofs.Ytomgdfoahfhijaa
open Go.RowKit
def uv (x : UInt32) : Value := .int .u32 (x.toNat : Int)
def uvs (l : List UInt32) : List Value := l.map uv
theorem uvs_one (l : List UInt32) : ∀ u ∈ (uvs l).toArray.toList, u.oneCell' = true := by
  intro u hu
  obtain ⟨x, _, rfl⟩ := List.mem_map.1 (by simpa [uvs] using hu)
  rfl
theorem size8 : (Try.prog.info? 142).map (·.size) = some 8 := by kernel_rfl
theorem size16 : (Try.prog.info? 151).map (·.size) = some 16 := by kernel_rfl
theorem size64w : (Try.prog.info? 152).map (·.size) = some 64 := by kernel_rfl
theorem zeroK : (Try.prog.info? 152).map (·.zero) = some (some (.agg (Array.replicate 64 (.int .u32 0)))) := by kernel_rfl
def shaK : List UInt32 := [
  0x428a2f98, 0x71374491, 0xb5c0fbcf, 0xe9b5dba5, 0x3956c25b, 0x59f111f1,
  0x923f82a4, 0xab1c5ed5, 0xd807aa98, 0x12835b01, 0x243185be, 0x550c7dc3,
  0x72be5d74, 0x80deb1fe, 0x9bdc06a7, 0xc19bf174, 0xe49b69c1, 0xefbe4786,
  0x0fc19dc6, 0x240ca1cc, 0x2de92c6f, 0x4a7484aa, 0x5cb0a9dc, 0x76f988da,
  0x983e5152, 0xa831c66d, 0xb00327c8, 0xbf597fc7, 0xc6e00bf3, 0xd5a79147,
  0x06ca6351, 0x14292967, 0x27b70a85, 0x2e1b2138, 0x4d2c6dfc, 0x53380d13,
  0x650a7354, 0x766a0abb, 0x81c2c92e, 0x92722c85, 0xa2bfe8a1, 0xa81a664b,
  0xc24b8b70, 0xc76c51a3, 0xd192e819, 0xd6990624, 0xf40e3585, 0x106aa070,
  0x19a4c116, 0x1e376c08, 0x2748774c, 0x34b0bcb5, 0x391c0cb3, 0x4ed8aa4a,
  0x5b9cca4f, 0x682e6ff3, 0x748f82ee, 0x78a5636f, 0x84c87814, 0x8cc70208,
  0x90befffa, 0xa4506ceb, 0xbef9a3f7, 0xc67178f2]

theorem lenK : (uvs shaK).toArray.size = 64 := by simp [uvs]; rfl
theorem oneK : ∀ v ∈ ((uvs shaK).toArray).toList, v.oneCell' = true := uvs_one shaK
theorem under64 : Try.prog.underlying 152 = some (.array 64 30) := by kernel_rfl
set_option maxRecDepth 100000 in
set_option maxHeartbeats 4000000 in
theorem shaConstants (w : World) : Calls Try.prog 96 #[] w fun e w' => e = .returned (.agg (uvs shaK).toArray) ∧ Upd NoS w w' := by
  go_enter Try.func96, Try.ntmps96
  go_wp2_with (first
    | (refine wpList_allocA zeroK rfl rfl rfl ?_)
    | (refine wpList_build (v := .agg (uvs shaK).toArray) rfl rfl (by kernel_rfl) ?_))
  have hlen : (uvs shaK).length = 64 := by simpa using lenK
  have hst := run_storeCells_at Try.prog w.heap.size 0 152 (uvs shaK) 0 (Array.replicate 64 (.int .u32 0)) (w.alloc (.cells (Array.replicate 64 (.int .u32 0)) 152)) (heap_new _ _) (by simp [hlen]) (by simpa using oneK)
  rw [hst]
  clear hst
  have hg1 : ∀ W, W = (w.alloc (.cells (Array.replicate 64 (.int .u32 0)) 152)).setRow w.heap.size (List.take (0 + 0) (Array.replicate 64 (Value.int .u32 0)).toList ++ uvs shaK ++ List.drop (0 + 0 + (uvs shaK).length) (Array.replicate 64 (Value.int .u32 0)).toList).toArray → W.heap[w.heap.size]? = some (.cells (uvs shaK).toArray 152 (0, 0)) ∧ Upd NoS w W := by
    rintro W rfl
    refine ⟨?_, ((Upd.refl NoS w).alloc _).setRow _ _ (fun h => absurd h (Nat.lt_irrefl _))⟩
    rw [setRow_heap _ _ _ _ _ _ (heap_new _ _), hlen]
    simp
  generalize (w.alloc (.cells (Array.replicate 64 (.int .u32 0)) 152)).setRow w.heap.size _ = W1 at hg1 ⊢
  obtain ⟨h1, h2⟩ := hg1 W1 rfl
  have H1 := Lib.hid h1
  have H2 := Lib.hid h2
  clear h1 h2 hg1 hlen
  go_wp2
  exact bodyPost_ret (results_cell_row rfl _ _ w.heap.size _ _ _ _ rfl H1.out under64 rfl (by rw [lenK]; exact size64w)) rfl ⟨rfl, H2.out⟩
end Go.Proofs.Ytomgdfoahfhijaa
