/- wal: All tells what came, each in a slice of its own. -/
import Derived.Test.YtomgdfoahfhijaaWcd
import Derived.Test.YtomgdfoahfhijaaRnh
set_option linter.unusedVariables false
set_option linter.unusedSimpArgs false
namespace Go.Proofs.Ytomgdfoahfhijaa
open Go.RowKit
attribute [local go_sem] Oper.semAt_some

abbrev AllX := Int × Option Addr × Nat × Nat
def encA (x : AllX) : Array Value := #[.int .i64 x.1, .slice x.2.1 x.2.2.1 x.2.2.2]
/-- Bytes that lie in a block of one's own, laid from B on. -/
def OwnB (w : World) (B : Nat) (v : Value) (l : List UInt8) : Prop := Rd w 5 1 v l.length (bvs l) ∧ ∀ k, v.ownBlock = some k → B ≤ k
def AllG (B : Nat) (came : List (List UInt8)) (pre : List AllX) (x : AllX) (W : World) : Prop :=
  x.1 = (pre.length : Int) + 1 ∧ ∃ l, came[pre.length]? = some l ∧ x.2.2.1 = l.length ∧ OwnB W B (.slice x.2.1 x.2.2.1 x.2.2.2) l
def AllK (b1 : Nat) (vs : Value) (vals : List Value) (k : Nat) : Prop := k = b1 ∨ vs.ownBlock = some k ∨ ∃ v ∈ vals, v.ownBlock = some k
set_option maxRecDepth 100000 in
set_option maxHeartbeats 1000000 in
theorem allGives (w : World) (b1 : Nat) (vs : Value) (vals : List Value) (came : List (List UInt8)) (h1 : w.heap[b1]? = some (.cells #[vs] 51 (0, 0))) (hvs : Rd w 35 1 vs came.length vals) (hcl : came.length ≤ 1000)
    (hv : ∀ (i : Nat) (v : Value) (l : List UInt8), vals[i]? = some v → came[i]? = some l → Rd w 5 1 v l.length (bvs l) ∧ l.length ≤ 40000) :
    Gives Try.prog 50 #[.pointer (some ⟨b1, 0, none⟩)] encA (AllK b1 vs vals) (AllG (b1 + 1) came) (fun xs => xs.length = came.length) w := by
  intro l J Jx W hW hJ hJx hY h0
  have hsz := hW.size
  have MK : Hid (∀ W2, Stay (AllK b1 vs vals) W W2 → W2.cell? ⟨b1, 0, none⟩ = some vs ∧ Rd W2 35 1 vs came.length vals ∧ ∀ (i : Nat) (v : Value) (l : List UInt8), vals[i]? = some v → came[i]? = some l → Rd W2 5 1 v l.length (bvs l) ∧ l.length ≤ 40000) := Lib.hid fun W2 hs =>
    ⟨cell_at ((hs b1 (.inl rfl)).trans ((hW.block b1 (lt_of_heap h1)).trans h1)) 0, (hvs.below hW).stay hs (fun k hk => .inr (.inl hk)), fun i v l a b => ⟨((hv i v l a b).1.below hW).stay hs (fun k hk => .inr (.inr ⟨v, List.mem_of_getElem? a, hk⟩)), (hv i v l a b).2⟩⟩
  have HKL : Hid (∀ k, AllK b1 vs vals k → k < W.heap.size) := Lib.hid fun k hk => by
    rcases hk with e | e | ⟨v, hm, e⟩
    · have := lt_of_heap h1; omega
    · have := hvs.lt k e; omega
    · obtain ⟨i, hi⟩ := List.getElem?_of_mem hm
      have hvl : vals.length = came.length := by simpa using hvs.1
      have hlt : i < came.length := by have := (List.getElem?_eq_some_iff.1 hi).1; omega
      have := (hv i v _ hi (List.getElem?_eq_getElem hlt)).1.lt k e
      omega
  have hvl : vals.length = came.length := by simpa using hvs.1
  have HY := Lib.hid hY
  have HJ := Lib.hid hJ
  have HVL := Lib.hid hvl
  have HSZ := Lib.hid hsz
  obtain ⟨q1, r1, _⟩ := MK.out W (fun _ _ => rfl)
  obtain ⟨a, c, rfl, hnc, hcm, hcells⟩ := r1.any
  clear h1 hvs hv hW hY hJ hJx hvl r1 hcells hsz
  refine callsIn_of_wp Try.func50 rfl trivial ?_ rfl
  simp only [Try.ntmps50, List.size_toArray, List.length_cons, List.length_nil, Nat.reduceAdd, Nat.reduceSub, Array.replicate_succ, Array.replicate_zero, List.push_toArray, List.append_toArray, List.nil_append, List.cons_append]
  gi_wp2
  clear q1
  gi_loopw [7] (fun i wr => ∃ pre : List AllX, pre.length ≤ came.length ∧ i = .int .i64 (pre.length : Int) ∧ J pre wr ∧ Stay (AllK b1 (.slice a came.length c) vals) W wr) (fun i _ => came.length - (intOf i).toNat)
  case atStart => exact ⟨[], Nat.zero_le _, rfl, h0, fun _ _ => rfl⟩
  case round =>
    obtain ⟨pre, hp, rfl, hJs, hst⟩ := hrel
    by_cases hlt : pre.length < came.length
    · obtain ⟨v, hvv⟩ : ∃ v, vals[pre.length]? = some v := ⟨_, List.getElem?_eq_getElem (by rw [HVL.out]; exact hlt)⟩
      obtain ⟨lb, hlb⟩ : ∃ lb, came[pre.length]? = some lb := ⟨_, List.getElem?_eq_getElem hlt⟩
      obtain ⟨m1, m2, m3⟩ := MK.out wr hst
      obtain ⟨hrv, h40⟩ := m3 _ _ _ hvv hlb
      obtain ⟨a2, c2, rfl, _⟩ := hrv.any
      obtain ⟨g, o, rfl⟩ : ∃ g o, a = some ⟨g, o, none⟩ := by
        rcases m2.shape with ⟨_, h0⟩ | ⟨g, o, c', h1, _⟩
        · omega
        · exact ⟨g, o, by cases h1; rfl⟩
      have q := m2.at pre.length hvv
      obtain ⟨i0, hi, hz0, hz1, hz2⟩ := info_parts infoB
      obtain ⟨a3, c3, w3, hrun, hown, hu⟩ := run_append_nil_rd (P := Try.prog) (t := 35) (ty := 35) Try.underlying35 hi hz0 hz1 hz2 rfl (by decide) hrv (bvs_one _) (by unfold maxLen; omega) (by omega)
      have hJ3 : J pre w3 := HJ.out pre wr w3 none hJs (hu.toGrown none) (fun r e => by cases e)
      have hKr : ∀ k, AllK b1 (.slice (some ⟨g, o, none⟩) came.length c) vals k → k < wr.heap.size := fun k hk => by
        have h2 := hst k hk
        rw [Array.getElem?_eq_getElem (HKL.out k hk)] at h2
        exact lt_of_heap h2
      have hsw : b1 + 1 ≤ wr.heap.size := hKr b1 (.inl rfl)
      have HKR := Lib.hid hKr
      have hG : AllG (b1 + 1) came pre ((pre.length : Int) + 1, a3, lb.length, c3) w3 := ⟨rfl, lb, hlb, rfl, Rd.of_own hown, fun k hk => Nat.le_trans hsw (own_ge hown k hk)⟩
      obtain ⟨fn, tmps, assign, body, hy, hR⟩ := HY.out pre _ w3 hJ3 hG
      simp only [encA] at hy
      have HRUN := Lib.hid hrun
      have HR := Lib.hid hR
      have HU := Lib.hid hu
      have HST := Lib.hid hst
      clear hrun hR hu hst hJs hKr hJ3 hG hown hi hz0 hz1 hz2 m1 m2 m3 hrv hvv hlb
      gi_wp2_with (first
        | (refine wpListIn_app rfl _ _ _ rfl rfl rfl HRUN.out ?_)
        | (refine RoundIn.mono HR.out ?_; refine halted ?_))
      unfold Halted
      rintro e9 W3 (⟨rfl, hJ3, hk3⟩ | ⟨rfl, hJx3⟩)
      · have hst3 : Stay (AllK b1 (.slice (some ⟨g, o, none⟩) came.length c) vals) W W3 := fun j hj => (hk3 j hj).trans ((HU.out.block j (HKR.out j hj) id).trans (HST.out j hj))
        have HJ3 := Lib.hid hJ3
        have HST3 := Lib.hid hst3
        clear hJ3 hk3 hst3 hy q
        gi_wp2
        go_roundw
        case rel => exact ⟨pre ++ [((pre.length : Int) + 1, a3, lb.length, c3)], by simp; omega, by simp, HJ3.out, HST3.out⟩
        case measure => simp [intOf]; omega
      · have HJ3 := Lib.hid hJx3
        clear hJx3 hy q
        gi_wp2
        refine bodyPost_ret (results_none rfl _ _ _) rfl ?_
        exact ⟨⟨_, rfl⟩, .inr ⟨_, HJ3.out⟩⟩
    · obtain hpe : pre.length = came.length := by omega
      have HPE := Lib.hid hpe
      have HJ3 := Lib.hid hJs
      rw [hpe]
      clear hJs hst hpe
      gi_wp2
      go_end0
      exact ⟨⟨_, rfl⟩, .inl ⟨_, HPE.out, HJ3.out⟩⟩
end Go.Proofs.Ytomgdfoahfhijaa
