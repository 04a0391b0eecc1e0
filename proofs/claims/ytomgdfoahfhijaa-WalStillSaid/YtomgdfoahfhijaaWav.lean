/- wal: leaves. -/
import Derived.Test.YtomgdfoahfhijaaWau
set_option linter.unusedVariables false
set_option linter.unusedSimpArgs false
namespace Go.Proofs.Ytomgdfoahfhijaa
open Go.RowKit
attribute [local go_sem] Oper.semAt_some

theorem wpListIn_app {F : Fence} {n : Nat} {P : Program} {w w' : World} {ops : Array Oper} {rest : List Oper} {o : Oper} {a : Act} {Q : Exit → Act → World → Prop} {v vs vx : Value} (hg : o.guard = none) (s x : Operand) (ts : Array TypeId)
    (hop : o.op = Op.call { callee := Callee.builtin Builtin.append, args := #[s, x], argTypes := ts }) (hs : a.eval s = vs) (hx : a.eval x = vx) (hrun : (Builtin.append_ ts o.type #[vs, vx]).run P w = .ok v w')
    (hK : wpListIn F n P ops Q rest (a.put o.dst v) w') : wpListIn F n P ops Q (o :: rest) a w := by
  refine wpListIn_plain hg fun K hK' => ?_
  unfold Oper.wpIn
  refine ⟨?_, ?_⟩
  · simp [Oper.about, hop, resolve, Target.leads, Sem.run_pure]
  · rw [Oper.semAt_plain F _ _ (by rw [hop]; intro c hc'; cases hc')]
    simp [execOp, hop, resolve, invoke, builtin, hs, hx, hrun, Result.andThen]
    exact hK' _ _ hK
theorem run_copy_to {P : Program} {w : World} {e e' n m g : Nat} {t : TypeId} {cur : Array Value} {ys : List Value} {s : Value} {dT sT ty : TypeId}
    (hu : P.underlying dT = some (.slice e)) (hz : (P.info? e).map (·.size) = some 1)
    (hh : w.heap[g]? = some (.cells cur t (0, 0))) (hn : cur.size = n) (hr : Rd w e' 1 s m ys) (h1 : ∀ u ∈ ys, u.oneCell' = true) :
    ∃ w', (Builtin.copy_ #[dT, sT] ty #[.slice (some ⟨g, 0, none⟩) n n, s]).run P w = .ok (goInt (min m n : Nat)) w' ∧
      w'.heap[g]? = some (.cells (ys.take n ++ cur.toList.drop (min m n)).toArray t (0, 0)) ∧ Upd (OneS g) w w' ∧ w'.heap.size = w.heap.size := by
  obtain ⟨a, cap, rfl, hmc, hcm, hcells⟩ := hr.any
  have hyl : ys.length = m := by simpa using hr.1
  by_cases hm0 : m = 0 ∨ n = 0
  · have h0 : min m n = 0 := by omega
    refine ⟨w, ?_, ?_, Upd.refl _ _, rfl⟩
    · rw [h0]
      exact run_copy_none (P := P) w dT sT ty e _ _ _ _ _ _ hu hz (by rw [show Nat.min m n = min m n from rfl, h0])
    · rw [h0, List.drop_zero]
      have : ys.take n = [] := by
        rw [← List.length_eq_zero_iff, List.length_take]; omega
      rw [this, List.nil_append, Array.toArray_toList]
      exact hh
  · obtain ⟨ad, rfl, hc⟩ := hcells (by omega)
    have hl : (ys.take n).length = Nat.min m n := by rw [List.length_take, hyl]; exact Nat.min_comm _ _
    have hrun := run_copy_row (P := P) (ty := ty) w dT sT e g 0 n n ad m cap cur t (ys.take n) hu hz hh hl
      (fun j v hj => hc j v (by
        rw [List.getElem?_take] at hj
        split at hj
        · exact hj
        · cases hj)) (by rw [hl]; show 0 + min m n ≤ cur.size; omega) (fun v hv => h1 v (List.mem_of_mem_take hv))
    rw [hl] at hrun
    refine ⟨_, hrun, ?_, (Upd.refl _ w).setRow g _ (fun _ => rfl), by simp⟩
    rw [setRow_heap w g cur _ t _ hh]
    simp only [List.take_zero, List.nil_append, Nat.zero_add]

def pad48 (x : List UInt8) : List UInt8 := x.take 48 ++ List.replicate (48 - x.length) 0
theorem length_pad48 (x : List UInt8) : (pad48 x).length = 48 := by simp [pad48]; omega
def leafB (turn number n : Int) (x : List UInt8) : List UInt8 := be turn 4 ++ be number 4 ++ be n 2 ++ be x.length 2 ++ pad48 x
theorem length_leafB (turn number n : Int) (x : List UInt8) : (leafB turn number n x).length = 60 := by simp [leafB, length_be, length_pad48]
def leafOf (turn number n : Int) (x : List UInt8) : Bk := ⟨sealOf (leafB turn number n x), length_sealOf (length_leafB _ _ _ _)⟩
def leavesOf (turn number n : Int) (x : List UInt8) : List Bk :=
  if x.length ≤ 48 then [leafOf turn number n x] else leafOf turn number n x :: leavesOf turn number n (x.drop 48)
termination_by x.length
decreasing_by simp; omega
theorem leavesOf_le {turn number n : Int} {x : List UInt8} (h : x.length ≤ 48) : leavesOf turn number n x = [leafOf turn number n x] := by
  rw [leavesOf, if_pos h]
theorem leavesOf_gt {turn number n : Int} {x : List UInt8} (h : ¬ x.length ≤ 48) : leavesOf turn number n x = leafOf turn number n x :: leavesOf turn number n (x.drop 48) := by
  rw [leavesOf, if_neg h]
theorem leavesOf_cons (turn number n : Int) (x : List UInt8) : ∃ r, leavesOf turn number n x = leafOf turn number n x :: r := by
  by_cases h : x.length ≤ 48
  · exact ⟨_, leavesOf_le h⟩
  · exact ⟨_, leavesOf_gt h⟩
theorem length_leavesOf (turn number n : Int) (x : List UInt8) : (leavesOf turn number n x).length = if x.length = 0 then 1 else (x.length + 47) / 48 := by
  by_cases h : x.length ≤ 48
  · rw [leavesOf_le h]
    split
    · rfl
    · simp only [List.length_singleton]; omega
  · rw [leavesOf_gt h, List.length_cons, length_leavesOf turn number n (x.drop 48), List.length_drop]
    rw [if_neg (by omega), if_neg (by omega)]
    omega
termination_by x.length
decreasing_by simp; omega
theorem length_leaves_le (turn number n : Int) {x : List UInt8} (h : x.length ≤ 40000) : (leavesOf turn number n x).length ≤ 1000 := by
  rw [length_leavesOf]; split <;> omega
theorem Rd.stay {K : Nat → Prop} {w w' : World} {e size n : Nat} {v : Value} {xs : List Value} (h : Rd w e size v n xs) (hs : Stay K w w') (hK : ∀ k, v.ownBlock = some k → K k) : Rd w' e size v n xs := by
  obtain ⟨h1, h2 | ⟨g, o, c, cur, fr, rfl, hn, hm, hh, ht⟩⟩ := h
  · exact ⟨h1, .inl h2⟩
  · exact ⟨h1, .inr ⟨g, o, c, cur, fr, rfl, hn, hm, (hs g (hK g rfl)).trans hh, ht⟩⟩
theorem Rd.below {w w' : World} {e size n : Nat} {v : Value} {xs : List Value} (h : Rd w e size v n xs) (hb : Below w.heap.size w w') : Rd w' e size v n xs :=
  h.stay (K := fun k => k < w.heap.size) (fun k hk => hb.block k hk) h.lt
def lenV : Value → Nat
  | .slice _ n _ => n
  | _ => 0
theorem zero48 : (#[Value.int IntKind.u8 0, Value.int IntKind.u8 0, Value.int IntKind.u8 0, Value.int IntKind.u8 0, Value.int IntKind.u8 0, Value.int IntKind.u8 0, Value.int IntKind.u8 0, Value.int IntKind.u8 0, Value.int IntKind.u8 0, Value.int IntKind.u8 0, Value.int IntKind.u8 0, Value.int IntKind.u8 0, Value.int IntKind.u8 0, Value.int IntKind.u8 0, Value.int IntKind.u8 0, Value.int IntKind.u8 0, Value.int IntKind.u8 0, Value.int IntKind.u8 0, Value.int IntKind.u8 0, Value.int IntKind.u8 0, Value.int IntKind.u8 0, Value.int IntKind.u8 0, Value.int IntKind.u8 0, Value.int IntKind.u8 0, Value.int IntKind.u8 0, Value.int IntKind.u8 0, Value.int IntKind.u8 0, Value.int IntKind.u8 0, Value.int IntKind.u8 0, Value.int IntKind.u8 0, Value.int IntKind.u8 0, Value.int IntKind.u8 0, Value.int IntKind.u8 0, Value.int IntKind.u8 0, Value.int IntKind.u8 0, Value.int IntKind.u8 0, Value.int IntKind.u8 0, Value.int IntKind.u8 0, Value.int IntKind.u8 0, Value.int IntKind.u8 0, Value.int IntKind.u8 0, Value.int IntKind.u8 0, Value.int IntKind.u8 0, Value.int IntKind.u8 0, Value.int IntKind.u8 0, Value.int IntKind.u8 0, Value.int IntKind.u8 0, Value.int IntKind.u8 0] : Array Value) = (bvs (List.replicate 48 0)).toArray := rfl

set_option maxRecDepth 100000 in
set_option maxHeartbeats 2000000 in
theorem leavesTells (w : World) (turn number : Int) (ht0 : 0 ≤ turn) (ht : turn < 4294967296) (hm0 : 0 ≤ number) (hm : number < 4294967296) (e : Nat) (v : Value) (l : List UInt8) (hr : Rd w e 1 v l.length (bvs l)) (hl : l.length ≤ 40000) (b1 b2 b3 : Nat)
    (h1 : w.heap[b1]? = some (.cells #[v] 35 (0, 0))) (h2 : w.heap[b2]? = some (.cells #[.int .u32 turn] 30 (0, 0))) (h3 : w.heap[b3]? = some (.cells #[.int .u32 number] 30 (0, 0))) :
    Tells Try.prog 74 #[.pointer (some ⟨b1, 0, none⟩), .pointer (some ⟨b2, 0, none⟩), .pointer (some ⟨b3, 0, none⟩)] encB (fun k => k = b1 ∨ k = b2 ∨ k = b3 ∨ v.ownBlock = some k) (leavesOf turn number l.length l) w := by
  intro ll J Jx W hW hJ hJx hY h0
  have g1 := (hW.block b1 (lt_of_heap h1)).trans h1
  have g2 := (hW.block b2 (lt_of_heap h2)).trans h2
  have g3 := (hW.block b3 (lt_of_heap h3)).trans h3
  have hrW : Rd W e 1 v l.length (bvs l) := hr.below hW
  clear h1 h2 h3 hW hr
  obtain ⟨a, c, rfl, hlc, hcm, _⟩ := hrW.any
  have MK : Hid (∀ W2, Stay (fun k => k = b1 ∨ k = b2 ∨ k = b3 ∨ (Value.slice a l.length c).ownBlock = some k) W W2 → W2.cell? ⟨b1, 0, none⟩ = some (.slice a l.length c) ∧ W2.cell? ⟨b2, 0, none⟩ = some (.int .u32 turn) ∧ W2.cell? ⟨b3, 0, none⟩ = some (.int .u32 number)) :=
    Lib.hid fun W2 hs => ⟨cell_at ((hs b1 (.inl rfl)).trans g1) 0, cell_at ((hs b2 (.inr (.inl rfl))).trans g2) 0, cell_at ((hs b3 (.inr (.inr (.inl rfl)))).trans g3) 0⟩
  have HY := Lib.hid hY
  have HR := Lib.hid hrW
  have HJ := Lib.hid hJ
  have HL := Lib.hid (lt_of_heap g1)
  have HL2 := Lib.hid (lt_of_heap g2)
  have HL3 := Lib.hid (lt_of_heap g3)
  obtain ⟨q1, q2, q3⟩ := MK.out W (fun _ _ => rfl)
  clear g1 g2 g3 hY hrW hJ hJx
  refine callsIn_of_wp Try.func74 rfl trivial ?_ rfl
  simp only [Try.ntmps74, List.size_toArray, List.length_cons, List.length_nil, Nat.reduceAdd, Nat.reduceSub, Array.replicate_succ, Array.replicate_zero, List.push_toArray, List.append_toArray, List.nil_append, List.cons_append]
  gi_wp2
  clear q1 q2 q3
  gi_loopw [5] (fun i wr => ∃ (a2 : Option Addr) (c2 : Nat) (x : List UInt8) (pre : List Bk), i = .slice a2 x.length c2 ∧ (∀ k, (Value.slice a2 x.length c2).ownBlock = some k → (Value.slice a l.length c).ownBlock = some k) ∧ Rd W e 1 (.slice a2 x.length c2) x.length (bvs x) ∧ x.length ≤ l.length ∧ leavesOf turn number l.length l = pre ++ leavesOf turn number l.length x ∧ J pre wr ∧ Stay (fun k => k = b1 ∨ k = b2 ∨ k = b3 ∨ (Value.slice a l.length c).ownBlock = some k) W wr) (fun i _ => lenV i)
  case atStart => exact ⟨a, c, l, [], rfl, fun _ h => h, HR.out, Nat.le_refl _, rfl, h0, fun _ _ => rfl⟩
  case round =>
    obtain ⟨a2, c2, x, pre, rfl, hob, hrx, hxl, hpre, hJs, hst⟩ := hrel
    have HOB := Lib.hid hob
    have HRX := Lib.hid hrx
    have HPRE := Lib.hid hpre
    have HJS := Lib.hid hJs
    have HST := Lib.hid hst
    clear hob hrx hpre hJs hst
    have HKL : Hid (∀ k, (k = b1 ∨ k = b2 ∨ k = b3 ∨ (Value.slice a l.length c).ownBlock = some k) → k < wr.heap.size) := Lib.hid fun k hk => by
      have hlt : k < W.heap.size := hk.elim (fun e => e ▸ HL.out) (fun hk => hk.elim (fun e => e ▸ HL2.out) (fun hk => hk.elim (fun e => e ▸ HL3.out) (fun e => HR.out.lt k e)))
      have := HST.out k hk
      rw [Array.getElem?_eq_getElem hlt] at this
      exact lt_of_heap this
    have MK2 : Hid (∀ w', Upd NoS wr w' → w'.cell? ⟨b1, 0, none⟩ = some (.slice a l.length c) ∧ w'.cell? ⟨b2, 0, none⟩ = some (.int .u32 turn) ∧ w'.cell? ⟨b3, 0, none⟩ = some (.int .u32 number)) :=
      Lib.hid fun w' hu => MK.out w' (fun k hk => (hu.block k (HKL.out k hk) id).trans (HST.out k hk))
    gi_wp2
    refine wpIn_wide.2 ?_
    refine wp_region_canon (fun w' => Upd NoS wr w') 4 1 [1, 3] [0, 2, 1, 3] rfl (by kernel_rfl) (by decide) (by kernel_rfl) (by kernel_rfl) (by kernel_rfl) (by kernel_rfl) (by kernel_rfl) ((Upd.refl _ _).drew) ?_
    simp only [List.take_succ_cons, List.take_zero, List.drop_succ_cons, List.drop_zero, pick, List.getElem?_cons_succ, List.getElem?_cons_zero, Nat.reduceBEq, List.contains_cons, List.contains_nil, Bool.or_self, Bool.or_false, Bool.or_true, Bool.true_or, Bool.false_or]
    iterate 2 (refine wpD_quiet ?_ (fun w' hS => ?_) ?_; rotate_left; (· obtain ⟨f1, f2, f3⟩ := MK2.out w' hS; go_simp; (try with_reducible rfl)); (try simp only [Act.put, List.setIfInBounds_toArray, List.set_cons_succ, List.set_cons_zero]))
    refine wpD_loud (fun K hK => ?_)
    go_wp2_with fail
    refine (put32 _ 5 (.slice none 0 0) [] (Rd.nil _ _ _) (by simp) turn ht0 ht).mono ?_
    rintro e1 w1 ⟨a1, c1, rfl, h1, hu1⟩
    have H1 := Lib.hid h1
    have HU1 := Lib.hid ((Upd.refl NoS wr).drew.tr hu1)
    clear h1 hu1
    go_wp2_with fail
    refine hK _ _ HU1.out ?_
    clear hK
    have hr1 : Rd w1 5 1 (.slice a1 4 c1) (be turn 4).length (bvs (be turn 4)) := by rw [length_be]; simpa using Rd.of_own H1.out
    have R1 := Lib.hid hr1
    clear hr1
    refine wpD_loud (fun K hK => ?_)
    go_wp2_with fail
    refine (put32 w1 5 (.slice a1 4 c1) (be turn 4) R1.out (by rw [length_be]; decide) number hm0 hm).mono ?_
    rintro e2 w2 ⟨a2', c2', rfl, h2, hu2⟩
    rw [length_be] at h2 ⊢
    have h8 : w2.ownsRow w1.heap.size 5 1 (.slice a2' 8 c2') 8 (bvs (be turn 4 ++ be number 4)) := h2
    have H2 := Lib.hid h8
    have HU2 := Lib.hid (HU1.out.tr hu2)
    clear h2 hu2 h8
    go_wp2_with fail
    refine hK _ _ HU2.out ?_
    clear hK
    refine wpD_nil ?_
    go_wp2
    refine NoPanic.normal ?_
    obtain ⟨q1, q2, q3⟩ := MK2.out w2 HU2.out
    have hnl : (l.length : Int) % 65536 = l.length := by omega
    have hnx : (x.length : Int) % 65536 = x.length := by omega
    gi_wp2_with (refine ⟨trivial, ?_⟩; gi_at_call 76; refine halted ?_)
    unfold Halted
    have h8 : (be turn 4 ++ be number 4).length = 8 := by simp [length_be]
    refine (CallsIn.mono (callsIn_wide.2 (put16 w2 5 (.slice a2' 8 c2') (be turn 4 ++ be number 4) (by rw [h8]; exact Rd.of_own H2.out) (by rw [h8]; decide) l.length (by omega) (by omega)))) ?_
    rintro e3 w3 ⟨a3, c3, rfl, h3, hu3⟩
    rw [h8] at h3 ⊢
    have h10 : w3.ownsRow w2.heap.size 5 1 (.slice a3 10 c3) 10 (bvs (be turn 4 ++ be number 4 ++ be l.length 2)) := h3
    have H3 := Lib.hid h10
    have HU3 := Lib.hid (HU2.out.tr hu3)
    clear h3 hu3 h10 q1 q2 q3 h8
    gi_wp2_with (refine ⟨trivial, ?_⟩; gi_at_call 76; refine halted ?_)
    unfold Halted
    have h10 : (be turn 4 ++ be number 4 ++ be l.length 2).length = 10 := by simp [length_be]
    refine (CallsIn.mono (callsIn_wide.2 (put16 w3 5 (.slice a3 10 c3) (be turn 4 ++ be number 4 ++ be l.length 2) (by rw [h10]; exact Rd.of_own H3.out) (by rw [h10]; decide) x.length (by omega) (by omega)))) ?_
    rintro e4 w4 ⟨a4, c4, rfl, h4, hu4⟩
    rw [h10] at h4 ⊢
    have h12 : w4.ownsRow w3.heap.size 5 1 (.slice a4 12 c4) 12 (bvs (be turn 4 ++ be number 4 ++ be l.length 2 ++ be x.length 2)) := h4
    have H4 := Lib.hid h12
    have HU4 := Lib.hid (HU3.out.tr hu4)
    have hs34 := hu4.size
    clear h4 hu4 h12 h10
    gi_wp2_with (refine ⟨trivial, ?_⟩; gi_at_call 77; refine halted ?_)
    rw [zero48]
    obtain ⟨W5, hW5⟩ : ∃ W5, W5 = w4.alloc (.cells (bvs (List.replicate 48 0)).toArray 121) := ⟨_, rfl⟩
    rw [← hW5]
    have hu5 : Upd NoS wr W5 := by rw [hW5]; exact HU4.out.alloc _
    have hg5 : W5.heap[w4.heap.size]? = some (.cells (bvs (List.replicate 48 0)).toArray 121 (0, 0)) := by rw [hW5]; exact heap_new _ _
    have h5 : W5.ownsRow w3.heap.size 5 1 (.slice a4 12 c4) 12 (bvs (be turn 4 ++ be number 4 ++ be l.length 2 ++ be x.length 2)) := by rw [hW5]; exact own_upd H4.out ((Upd.refl NoS w4).alloc _) (fun _ _ h => h)
    have hs5 : W5.heap.size = w4.heap.size + 1 := by rw [hW5]; simp
    clear hW5
    have hrx5 : Rd W5 e 1 (.slice a2 x.length c2) x.length (bvs x) := (HRX.out.stay HST.out (fun k hk => .inr (.inr (.inr (HOB.out k hk))))).updNo hu5
    obtain ⟨w6, hrun6, hg6, hu6, hs6⟩ := run_copy_to (P := Try.prog) (dT := 35) (sT := 35) (ty := 3) (n := 48) Try.underlying35 sizeB hg5 (by simp) hrx5 (bvs_one x)
    rw [hrun6]
    have hp48 : (bvs x).take 48 ++ (bvs (List.replicate 48 0)).toArray.toList.drop (min x.length 48) = bvs (pad48 x) := by
      simp only [pad48, bvs, List.map_append, List.map_take, List.map_replicate, List.drop_replicate]
      congr 2
      omega
    rw [hp48] at hg6
    have h6 := own_upd h5 hu6 (fun k hk e => by have := own_lt H4.out k hk; rw [show k = w4.heap.size from e] at this; exact Nat.lt_irrefl _ this)
    have hu46 : Upd NoS wr w6 := hu5.trans hu6 (fun k hk e => absurd hk (by rw [show k = w4.heap.size from e]; have := HU4.out.size; omega))
    have H6 := Lib.hid h6
    have HU6 := Lib.hid hu46
    have HG6 := Lib.hid hg6
    have HS6 := Lib.hid (show w3.heap.size ≤ w6.heap.size by omega)
    clear hrun6 hp48 hu5 hg5 h5 hrx5 h6 hu46 hg6 hu6 hs34 hs5 hs6
    obtain ⟨i0, hi, hz0, hz1, hz2⟩ := info_parts infoB
    have hrp : Rd w6 121 1 (.slice (some ⟨w4.heap.size, 0, none⟩) 48 48) 48 (bvs (pad48 x)) :=
      ⟨by simp [length_pad48], .inr ⟨_, 0, 48, _, (0, 0), rfl, Nat.le_refl _, by unfold maxLen; decide, HG6.out, by rw [List.drop_zero, List.take_of_length_le (by simp [length_pad48])]⟩⟩
    obtain ⟨a7, c7, w7, hrun7, ho7, hgr7⟩ := run_append_rd (P := Try.prog) (t := 35) (ty := 35) Try.underlying35 hi hz0 hz1 hz2 rfl (by decide) H6.out hrp (bvs_one _) (by unfold maxLen; decide) (by decide) HS6.out
    have hu7 := HU6.out.grown hgr7 (fun k hk hlt => absurd hlt (by have := own_ge H6.out k hk; have := HU3.out.size; omega))
    have hB : be turn 4 ++ be number 4 ++ be l.length 2 ++ be x.length 2 ++ pad48 x = leafB turn number l.length x := rfl
    rw [← bvs_append, hB] at ho7
    have R7 := Lib.hid (show Rd w7 5 1 (.slice a7 60 c7) 60 (bvs (leafB turn number l.length x)) from Rd.of_own ho7)
    have HU7 := Lib.hid hu7
    have HRUN7 := Lib.hid hrun7
    clear hi hz0 hz1 hz2 hrp hrun7 ho7 hgr7 hu7 hB i0
    gi_wp2_with (first
      | (refine wpListIn_app rfl _ _ _ rfl rfl rfl HRUN7.out ?_)
      | (refine ⟨trivial, ?_⟩; gi_at_call 77; refine halted ?_))
    unfold Halted
    have hlen := length_leafB turn number l.length x
    refine (CallsIn.mono (callsIn_wide.2 (walSealed w7 5 (.slice a7 60 c7) (leafB turn number l.length x) (by rw [hlen]; exact R7.out) hlen))) ?_
    rintro e8 w8 ⟨rfl, hu8⟩
    rw [show sealOf (leafB turn number l.length x) = (leafOf turn number l.length x).1 from rfl]
    have HU8 := Lib.hid (HU7.out.tr hu8)
    clear hu8 hlen
    have hJ8 : J pre w8 := HJ.out pre wr w8 none HJS.out (HU8.out.toGrown none) (fun r e => by cases e)
    obtain ⟨r, hr⟩ := leavesOf_cons turn number l.length x
    obtain ⟨fn, tmps, assign, body, hy, hR⟩ := HY.out pre (leafOf turn number l.length x) w8 hJ8 (by rw [HPRE.out, hr]; simp)
    simp only [encB] at hy
    have HR8 := Lib.hid hR
    have HRR := Lib.hid hr
    clear hJ8 hr hR
    gi_wp2_with (refine RoundIn.mono HR8.out ?_; refine halted ?_)
    unfold Halted
    rintro e9 W3 (⟨rfl, hJ3, hk3⟩ | ⟨rfl, hJx3⟩)
    · have hst3 : Stay (fun k => k = b1 ∨ k = b2 ∨ k = b3 ∨ (Value.slice a l.length c).ownBlock = some k) W W3 := fun j hj => (hk3 j hj).trans ((HU8.out.block j (HKL.out j hj) id).trans (HST.out j hj))
      have HJ3 := Lib.hid hJ3
      have HST3 := Lib.hid hst3
      clear hJ3 hk3 hst3 hy hnl hnx
      by_cases hx : x.length ≤ 48
      · have hx' : (x.length : Int) ≤ 48 := by omega
        have HE := Lib.hid (HPRE.out.trans (by rw [leavesOf_le hx]))
        gi_wp2
        refine bodyPost_ret (results_none rfl _ _ _) rfl ?_
        exact ⟨⟨_, rfl⟩, .inl ⟨_, rfl, by rw [HE.out]; exact HJ3.out⟩⟩
      · have hx' : 48 < (x.length : Int) := by omega
        obtain ⟨g, o, rfl⟩ : ∃ g o, a2 = some ⟨g, o, none⟩ := by
          rcases HRX.out.shape with ⟨h1, h2⟩ | ⟨g, o, c', h1, _⟩
          · omega
          · exact ⟨g, o, by cases h1; rfl⟩
        obtain ⟨_, _, hsv, hxc, hcm2, _⟩ := HRX.out.any
        cases hsv
        have HD := Lib.hid (HRX.out.drop (n := 48) (by omega))
        have hdl : (x.drop 48).length = x.length - 48 := by simp
        have HE := Lib.hid (HPRE.out.trans (by rw [leavesOf_gt hx]))
        have HDL := Lib.hid hdl
        clear hdl
        gi_wp2
        refine ⟨⟨some ⟨g, o + 48, none⟩, c2 - 48, x.drop 48, pre ++ [leafOf turn number l.length x], by rw [HDL.out], fun k hk => by cases hk; exact HOB.out _ rfl, ?_, by rw [HDL.out]; omega, by rw [HE.out, List.append_assoc]; rfl, HJ3.out, HST3.out⟩, by simp only [lenV]; omega⟩
        rw [HDL.out, show bvs (x.drop 48) = (bvs x).drop 48 by simp [bvs, List.map_drop]]
        exact HD.out
    · have HJ3 := Lib.hid hJx3
      clear hJx3 hy hnl hnx
      gi_wp2
      refine bodyPost_ret (results_none rfl _ _ _) rfl ?_
      exact ⟨⟨_, rfl⟩, .inr ⟨_, ⟨r, by rw [HPRE.out, HRR.out, List.append_assoc]; rfl⟩, HJ3.out⟩⟩
set_option maxRecDepth 100000 in
theorem walLeaves (w : World) (turn number : Int) (a : Option Addr) (n c : Nat) : Calls Try.prog 53 #[.int .u32 turn, .int .u32 number, .slice a n c] w fun e w' =>
    e = .returned (.func (.func 74) #[] #[.pointer (some ⟨w.heap.size + 2, 0, none⟩), .pointer (some ⟨w.heap.size, 0, none⟩), .pointer (some ⟨w.heap.size + 1, 0, none⟩)]) ∧ w' = ((w.alloc (.cells #[.int .u32 turn] 30)).alloc (.cells #[.int .u32 number] 30)).alloc (.cells #[.slice a n c] 35) := by
  go_enter Try.func53, Try.ntmps53
  go_wp2
  go_ret
  exact ⟨rfl, rfl⟩
end Go.Proofs.Ytomgdfoahfhijaa
