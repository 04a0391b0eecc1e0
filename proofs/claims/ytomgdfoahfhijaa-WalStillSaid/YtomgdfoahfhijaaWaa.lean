/- wal: Sectors, may, only. -/
import Derived.Test.YtomgdfoahfhijaaDsp
set_option linter.unusedVariables false
set_option linter.unusedSimpArgs false
namespace Go.Proofs.Ytomgdfoahfhijaa
open Go.RowKit
attribute [local go_sem] Oper.semAt_some

def sectorsOf (n : Int) : Int := if n < 0 ∨ 40000 < n then 0 else if n = 0 then 1 else (n + 47) / 48
set_option maxRecDepth 100000 in
theorem walSectors (w : World) (n : Int) : Calls Try.prog 10 #[.int .i64 n] w fun e w' => e = .returned (.int .i64 (sectorsOf n)) ∧ w' = w := by
  unfold sectorsOf
  by_cases h : n < 0 ∨ 40000 < n
  · rw [if_pos h]
    go_enter Try.func10, Try.ntmps10
    go_wp2
    all_goals first | (exfalso; omega) | skip
    all_goals
      go_ret
      exact ⟨rfl, rfl⟩
  · rw [if_neg h]
    have h1 : 0 ≤ n := by omega
    have h2 : n ≤ 40000 := by omega
    by_cases h0 : n = 0
    · rw [if_pos h0]
      subst h0
      go_enter Try.func10, Try.ntmps10
      go_wp2
      go_ret
      exact ⟨rfl, rfl⟩
    · rw [if_neg h0]
      have h3 : (n == 0) = false := by simpa using h0
      have h4 : (n + 47).tdiv 48 = (n + 47) / 48 := Int.tdiv_eq_ediv_of_nonneg (by omega)
      go_enter Try.func10, Try.ntmps10
      go_wp2
      all_goals first | (exfalso; omega) | skip
      all_goals
        go_ret
        refine ⟨?_, rfl⟩
        show Ending.returned (Value.int .i64 ((n + 48 - 1) / 48)) = _
        rw [show n + 48 - 1 = n + 47 by omega]

abbrev Bk := { l : List UInt8 // l.length = 64 }
def encB (x : Bk) : Array Value := #[.agg (bvs x.1).toArray]
set_option maxRecDepth 100000 in
set_option maxHeartbeats 2000000 in
theorem onlyTells (w : World) (x : Bk) (n : Nat) (hn : n ≤ 1000000) (b1 b2 : Nat) (h1 : w.heap[b1]? = some (.cells #[.int .i64 n] 3 (0, 0))) (h2 : w.heap[b2]? = some (.cells (bvs x.1).toArray 80 (0, 0))) :
    Tells Try.prog 64 #[.pointer (some ⟨b1, 0, none⟩), .pointer (some ⟨b2, 0, none⟩)] encB (fun k => k = b1 ∨ k = b2) (List.replicate n x) w := by
  intro l J Jx W hW hJ hJx hY h0
  have q0 := cell_at ((hW.block b1 (lt_of_heap h1)).trans h1) 0
  simp only [List.getElem?_toArray, List.getElem?_cons_zero] at q0
  have HB := Lib.hid ((hW.block b2 (lt_of_heap h2)).trans h2)
  have HY := Lib.hid hY
  clear h1 h2 hW hY
  refine callsIn_of_wp Try.func64 rfl trivial ?_ rfl
  simp only [Try.ntmps64, List.size_toArray, List.length_cons, List.length_nil, Nat.reduceAdd, Nat.reduceSub, Array.replicate_succ, Array.replicate_zero, List.push_toArray, List.append_toArray, List.nil_append, List.cons_append]
  gi_wp2
  clear q0
  gi_loopw [5] (fun i wr => ∃ k : Nat, k ≤ n ∧ i = .int .i64 k ∧ J (List.replicate k x) wr ∧ Stay (fun k => k = b1 ∨ k = b2) W wr) (fun i _ => n - (intOf i).toNat)
  case atStart => exact ⟨0, Nat.zero_le _, rfl, h0, fun _ _ => rfl⟩
  case round =>
    obtain ⟨k, hk, rfl, hJs, hst⟩ := hrel
    by_cases hlt : k < n
    · have hb := (hst b2 (.inr rfl)).trans HB.out
      obtain ⟨fn, tmps, assign, body, hy, hR⟩ := HY.out _ x wr hJs (by simpa using hlt)
      simp only [encB] at hy
      have HG := Lib.hid hb
      have HST := Lib.hid hst
      have HJ := Lib.hid hJs
      clear hb hst hJs
      gi_wp2_with (refine wpListIn_val rfl rfl (by intro c h; cases h) (exec_load0 HG.out Try.underlying80 rfl sizeBlock (by simp [x.2]) rfl rfl) ?_)
      refine hR.mono ?_
      rintro e W3 (⟨rfl, hJ3, hk3⟩ | ⟨rfl, hJx3⟩)
      · have hst3 : Stay (fun k => k = b1 ∨ k = b2) W W3 := fun j hj => (hk3 j hj).trans (HST.out j hj)
        rw [← List.replicate_succ'] at hJ3
        have HJ3 := Lib.hid hJ3
        have HST3 := Lib.hid hst3
        clear hk3 hJ3 hst3 hy
        gi_wp2
        go_roundw
        case rel => exact ⟨k + 1, by omega, by go_num, HJ3.out, HST3.out⟩
        case measure => simp [intOf]; omega
      · rw [← List.replicate_succ'] at hJx3
        have HJ3 := Lib.hid hJx3
        clear hJx3 hy
        gi_wp2
        refine bodyPost_ret (results_none rfl _ _ _) rfl ?_
        exact ⟨⟨_, rfl⟩, .inr ⟨_, ⟨List.replicate (n - (k + 1)) x, by rw [List.replicate_append_replicate]; congr 1; omega⟩, HJ3.out⟩⟩
    · obtain rfl : k = n := by omega
      have HJ3 := Lib.hid hJs
      clear hJs hst
      gi_wp2
      go_end0
      exact ⟨⟨_, rfl⟩, .inl ⟨_, rfl, HJ3.out⟩⟩
set_option maxRecDepth 100000 in
theorem walOnly (w : World) (x : List UInt8) (n : Int) : Calls Try.prog 43 #[.agg (bvs x).toArray, .int .i64 n] w fun e w' => e = .returned (.func (.func 64) #[] #[.pointer (some ⟨w.heap.size + 1, 0, none⟩), .pointer (some ⟨w.heap.size, 0, none⟩)]) ∧ w' = (w.alloc (.cells (bvs x).toArray 80)).alloc (.cells #[.int .i64 n] 3) := by
  go_enter Try.func43, Try.ntmps43
  go_wp2
  go_ret
  exact ⟨rfl, rfl⟩

def mayB (size n : Int) : Bool := decide (4 ≤ n) && decide (n ≤ 1000) && decide (2 * n + 2 ≤ size)
set_option maxRecDepth 100000 in
theorem walMay (w : World) (d : Nat) (D : Dk) (S : Nat → Prop) (h : IsDisk w d D S) (n : Int) (hn1 : -9223372036854775808 ≤ n) (hn2 : n ≤ 9223372036854775807) :
    Calls Try.prog 41 #[.pointer (some ⟨d, 0, none⟩), .int .i64 n] w fun e w' => e = .returned (.bool (mayB D.size n)) ∧ w' = w := by
  unfold mayB
  by_cases h1 : 4 ≤ n
  · by_cases h2 : n ≤ 1000
    · go_enter Try.func41, Try.ntmps41
      go_wp2_with (go_at_call 61; refine (dskLen _ d D S h).mono ?_; rintro e w' ⟨rfl, rfl⟩)
      go_ret
      refine ⟨?_, rfl⟩
      simp [h1, h2]
    · go_enter Try.func41, Try.ntmps41
      go_wp2
      go_ret
      refine ⟨?_, rfl⟩
      simp [h1, h2]
      omega
  · go_enter Try.func41, Try.ntmps41
    go_wp2
    go_ret
    refine ⟨?_, rfl⟩
    simp [h1]
    omega
end Go.Proofs.Ytomgdfoahfhijaa
