/- wal: lay over leaves, over a block many times; begin. -/
import Derived.Test.YtomgdfoahfhijaaWav
set_option linter.unusedVariables false
set_option linter.unusedSimpArgs false
namespace Go.Proofs.Ytomgdfoahfhijaa
open Go.RowKit

def alloc3 (w : World) (turn number : Int) (v : Value) : World := ((w.alloc (.cells #[.int .u32 turn] 30)).alloc (.cells #[.int .u32 number] 30)).alloc (.cells #[v] 35)
theorem alloc3_upd (w : World) (turn number : Int) (v : Value) : Upd NoS w (alloc3 w turn number v) := (((Upd.refl NoS w).alloc _).alloc _).alloc _
theorem alloc3_size (w : World) (turn number : Int) (v : Value) : (alloc3 w turn number v).heap.size = w.heap.size + 3 := by simp [alloc3]
set_option maxRecDepth 100000 in
theorem walLayLeaves (w : World) (d : Nat) (D : Dk) (S : Nat → Prop) (h : IsDisk w d D S) (at_ : Int) (ha1 : -1000000000 ≤ at_) (ha2 : at_ ≤ 1000000000) (turn number : Int) (ht0 : 0 ≤ turn) (ht : turn < 4294967296) (hm0 : 0 ≤ number) (hm : number < 4294967296)
    (e : Nat) (a : Option Addr) (c : Nat) (l : List UInt8) (hr : Rd w e 1 (.slice a l.length c) l.length (bvs l)) (hl : l.length ≤ 40000) (hnS : ∀ k, (Value.slice a l.length c).ownBlock = some k → ¬ S k) (hlo : D.loose.length ≤ 900000000) :
    Calls Try.prog 42 #[.pointer (some ⟨d, 0, none⟩), .int .i64 at_, .func (.func 74) #[] #[.pointer (some ⟨w.heap.size + 2, 0, none⟩), .pointer (some ⟨w.heap.size, 0, none⟩), .pointer (some ⟨w.heap.size + 1, 0, none⟩)]] (alloc3 w turn number (.slice a l.length c)) fun e w' =>
      e = .returned (.int .i64 (D.lays at_ ((leavesOf turn number l.length l).map Subtype.val)).1) ∧ DskTo w w' d (D.lays at_ ((leavesOf turn number l.length l).map Subtype.val)).2 S := by
  have hu := alloc3_upd w turn number (.slice a l.length c)
  have hz := alloc3_size w turn number (.slice a l.length c)
  have hg1 : (alloc3 w turn number (.slice a l.length c)).heap[w.heap.size + 2]? = some (.cells #[.slice a l.length c] 35 (0, 0)) := heap_new' (by simp)
  have hg2 : (alloc3 w turn number (.slice a l.length c)).heap[w.heap.size]? = some (.cells #[.int .u32 turn] 30 (0, 0)) := heap_old (heap_old (heap_new _ _))
  have hg3 : (alloc3 w turn number (.slice a l.length c)).heap[w.heap.size + 1]? = some (.cells #[.int .u32 number] 30 (0, 0)) := heap_old (heap_new' (by simp))
  obtain ⟨W, hW⟩ : ∃ W, W = alloc3 w turn number (.slice a l.length c) := ⟨_, rfl⟩
  rw [← hW] at hu hz hg1 hg2 hg3 ⊢
  clear hW
  have ht' := leavesTells W turn number ht0 ht hm0 hm e _ l (hr.updNo hu) hl (w.heap.size + 2) w.heap.size (w.heap.size + 1) hg1 hg2 hg3
  have hlen := length_leaves_le turn number l.length hl
  refine (walLay W d D S (h.updNo hu) at_ ha1 ha2 74 _ (by kernel_rfl) _ _ ht' (fun k hk => ?_) (by omega)).mono ?_
  · rcases hk with rfl | rfl | rfl | hk
    · exact ⟨by omega, fun hs => by have := h.lt _ hs; omega⟩
    · exact ⟨by omega, fun hs => by have := h.lt _ hs; omega⟩
    · exact ⟨by omega, fun hs => by have := h.lt _ hs; omega⟩
    · exact ⟨by have := hr.lt k hk; omega, hnS k hk⟩
  · rintro e w' ⟨rfl, hto⟩
    exact ⟨rfl, hto.of hu (sameMap_upd h hu id)⟩
def alloc2 (w : World) (x : List UInt8) (n : Int) : World := (w.alloc (.cells (bvs x).toArray 80)).alloc (.cells #[.int .i64 n] 3)
theorem alloc2_upd (w : World) (x : List UInt8) (n : Int) : Upd NoS w (alloc2 w x n) := ((Upd.refl NoS w).alloc _).alloc _
theorem alloc2_size (w : World) (x : List UInt8) (n : Int) : (alloc2 w x n).heap.size = w.heap.size + 2 := by simp [alloc2]
set_option maxRecDepth 100000 in
theorem walLayOnly (w : World) (d : Nat) (D : Dk) (S : Nat → Prop) (h : IsDisk w d D S) (at_ : Int) (ha1 : -1000000000 ≤ at_) (ha2 : at_ ≤ 1000000000) (x : List UInt8) (hx : x.length = 64) (n : Nat) (hn : n ≤ 100000) (hlo : D.loose.length ≤ 900000000) :
    Calls Try.prog 42 #[.pointer (some ⟨d, 0, none⟩), .int .i64 at_, .func (.func 64) #[] #[.pointer (some ⟨w.heap.size + 1, 0, none⟩), .pointer (some ⟨w.heap.size, 0, none⟩)]] (alloc2 w x n) fun e w' =>
      e = .returned (.int .i64 (D.lays at_ (List.replicate n x)).1) ∧ DskTo w w' d (D.lays at_ (List.replicate n x)).2 S := by
  have hu := alloc2_upd w x n
  have hz := alloc2_size w x n
  have hg1 : (alloc2 w x n).heap[w.heap.size + 1]? = some (.cells #[.int .i64 n] 3 (0, 0)) := heap_new' (by simp)
  have hg2 : (alloc2 w x n).heap[w.heap.size]? = some (.cells (bvs x).toArray 80 (0, 0)) := heap_old (heap_new _ _)
  obtain ⟨W, hW⟩ : ∃ W, W = alloc2 w x n := ⟨_, rfl⟩
  rw [← hW] at hu hz hg1 hg2 ⊢
  clear hW
  have ht' := onlyTells W ⟨x, hx⟩ n (by omega) (w.heap.size + 1) w.heap.size hg1 hg2
  refine (walLay W d D S (h.updNo hu) at_ ha1 ha2 64 _ (by kernel_rfl) _ _ ht' (fun k hk => ?_) (by simp; omega)).mono ?_
  · rcases hk with rfl | rfl
    · exact ⟨by omega, fun hs => by have := h.lt _ hs; omega⟩
    · exact ⟨by omega, fun hs => by have := h.lt _ hs; omega⟩
  · rw [show (List.replicate n (⟨x, hx⟩ : Bk)).map Subtype.val = List.replicate n x by simp]
    rintro e w' ⟨rfl, hto⟩
    exact ⟨rfl, hto.of hu (sameMap_upd h hu id)⟩

def bookC (d : Nat) (n turn : Int) : Array Value := #[.pointer (some ⟨d, 0, none⟩), .int .i64 n, .int .u32 turn]
theorem fromOf_le {n turn : Int} (hn0 : 0 ≤ n) (hn : n ≤ 1000) : 2 ≤ fromOf n turn ∧ fromOf n turn ≤ 1002 := by
  unfold fromOf
  have : turn % 2 = 0 ∨ turn % 2 = 1 := by omega
  rcases this with h | h <;> rw [h] <;> omega
theorem sizeBook : (Try.prog.info? 71).map (·.size) = some 3 := by kernel_rfl
theorem DskTo.of2 {w W0 w' : World} {d : Nat} {D D0 : Dk} {S : Nat → Prop} (h : DskTo W0 w' d D S) (hI : IsDisk w d D0 S) (hu : Upd NoS w W0) : DskTo w w' d D S := h.of hu (sameMap_upd hI hu id)
/-- begin's first step. -/
def Dk.step1 (D : Dk) (n turn : Int) (l : List UInt8) : Int × Dk := D.lays (fromOf n turn) ((leavesOf turn 0 l.length l).map Subtype.val)
def Dk.step2 (D : Dk) (n turn : Int) : Int × Dk := D.lays (turn % 2) [titleOf turn n]
set_option maxRecDepth 100000 in
set_option maxHeartbeats 2000000 in
theorem walBegin1 (w : World) (d : Nat) (D : Dk) (S : Nat → Prop) (h : IsDisk w d D S) (n turn : Int) (hn0 : 0 ≤ n) (hn : n ≤ 1000) (ht0 : 0 ≤ turn) (ht : turn < 4294967296)
    (e : Nat) (a : Option Addr) (c : Nat) (l : List UInt8) (hr : Rd w e 1 (.slice a l.length c) l.length (bvs l)) (hl : l.length ≤ 40000) (hnS : ∀ k, (Value.slice a l.length c).ownBlock = some k → ¬ S k) (hlo : D.loose.length ≤ 900000000)
    (b0 b1 : Nat) (hb0 : w.heap[b0]? = some (.cells (bookC d n turn) 71 (0, 0))) (hb1 : w.heap[b1]? = some (.cells #[.slice a l.length c] 35 (0, 0))) :
    Calls Try.prog 65 #[.pointer (some ⟨b0, 0, none⟩), .pointer (some ⟨b1, 0, none⟩)] w fun e w' => e = .returned (.int .i64 (D.step1 n turn l).1) ∧ DskTo w w' d (D.step1 n turn l).2 S := by
  have HI := Lib.hid h
  have HR := Lib.hid hr
  have HS := Lib.hid hnS
  have MK : Hid (∀ w', Upd NoS w w' → w'.cell? ⟨b0, 0, none⟩ = some (.pointer (some ⟨d, 0, none⟩)) ∧ w'.cell? ⟨b0, 2, none⟩ = some (.int .u32 turn) ∧ w'.cell? ⟨b1, 0, none⟩ = some (.slice a l.length c)) :=
    Lib.hid fun w' hu => ⟨cell_at (hu.heap hb0 id) 0, cell_at (hu.heap hb0 id) 2, cell_at (hu.heap hb1 id) 0⟩
  have MB : Hid (∀ w', Upd NoS w w' → w'.heap[b0]? = some (.cells (bookC d n turn) 71 (0, 0))) := Lib.hid fun w' hu => hu.heap hb0 id
  obtain ⟨hf2, hf3⟩ := fromOf_le (turn := turn) hn0 hn
  clear h hr hnS hb0 hb1
  go_enter Try.func65, Try.ntmps65
  go_wp2
  refine wp_region_canon (fun w' => Upd NoS w w') 8 2 [3, 7] [0, 1, 2, 4, 5, 6, 3, 7] rfl (by kernel_rfl) (by decide) (by kernel_rfl) (by kernel_rfl) (by kernel_rfl) (by kernel_rfl) (by kernel_rfl) ((Upd.refl _ _).drew) ?_
  simp only [List.take_succ_cons, List.take_zero, List.drop_succ_cons, List.drop_zero, pick, List.getElem?_cons_succ, List.getElem?_cons_zero, Nat.reduceBEq, List.contains_cons, List.contains_nil, Bool.or_self, Bool.or_false, Bool.or_true, Bool.true_or, Bool.false_or]
  iterate 2 (refine wpD_quiet ?_ (fun w' hS => ?_) ?_; rotate_left; (· obtain ⟨f0, f1, f2⟩ := MK.out w' hS; go_simp; (try with_reducible rfl)); (try simp only [Act.put, List.setIfInBounds_toArray, List.set_cons_succ, List.set_cons_zero]))
  refine wpD_quiet _ (fun w' hS => exec_load0 (MB.out w' hS) Try.underlying71 rfl sizeBook rfl rfl rfl) ?_
  simp only [Act.put, List.setIfInBounds_toArray, List.set_cons_succ, List.set_cons_zero]
  iterate 3 (refine wpD_quiet ?_ (fun w' hS => ?_) ?_; rotate_left; (· obtain ⟨f0, f1, f2⟩ := MK.out w' hS; go_simp; (try with_reducible rfl)); (try simp only [Act.put, List.setIfInBounds_toArray, List.set_cons_succ, List.set_cons_zero]))
  refine wpD_loud (fun K hK => ?_)
  go_wp2_with fail
  refine (walFrom _ d n turn hn0 hn ht0 ht).mono ?_
  rintro e1 w1 ⟨rfl, hu1⟩
  have HU1 := Lib.hid ((Upd.refl NoS w).drew.tr hu1)
  clear hu1
  go_wp2_with fail
  refine hK _ _ HU1.out ?_
  clear hK
  refine wpD_loud (fun K hK => ?_)
  go_wp2_with fail
  refine (walLeaves w1 turn 0 a l.length c).mono ?_
  rintro e2 w2 ⟨rfl, hw2⟩
  rw [← alloc3] at hw2
  have hu2 : Upd NoS w1 w2 := by rw [hw2]; exact alloc3_upd _ _ _ _
  have HU2 := Lib.hid (HU1.out.tr hu2)
  have HW2 := Lib.hid hw2
  clear hu2 hw2
  go_wp2_with fail
  refine hK _ _ HU2.out ?_
  clear hK
  refine wpD_nil ?_
  go_wp2_with (go_at_call 42; refine halted ?_)
  unfold Halted
  rw [HW2.out]
  refine (walLayLeaves w1 d D S (HI.out.updNo HU1.out) _ (by omega) (by omega) turn 0 ht0 ht (by decide) (by decide) e a c l (HR.out.updNo HU1.out) hl HS.out hlo).mono ?_
  rintro e3 w3 ⟨rfl, hto⟩
  have HTO := Lib.hid (hto.of2 HI.out HU1.out)
  clear hto
  go_wp2
  refine NoPanic.normal ?_
  go_wp2
  go_ret
  exact ⟨rfl, HTO.out⟩
theorem DskTo.step {w w1 w2 : World} {d : Nat} {D D2 : Dk} {S S1 : Nat → Prop} (h0 : IsDisk w d D S) (hf : ∀ k, S1 k → S k ∨ NewCells w w1 k) (hu : Upd S w w1) (hm : SameMap d w w1) (h2 : DskTo w1 w2 d D2 S1) : DskTo w w2 d D2 S := by
  obtain ⟨S2, j1, j2, j3, j4⟩ := h2
  have h0' := h0
  obtain ⟨m, v, hS, hd, _⟩ := h0'
  have hmc : w.cell? ⟨d, 1, none⟩ = some (.map (some m)) := cell_at hd 1
  exact ⟨S2, j1, foot_cells j1 (j4.trans (hm.trans hmc)) h0.self ((hS m).2 (.inr (.inl rfl))) (fun k hk => (j2 k hk).elim (fun h => (hf k h).imp id (fun h => h.1)) (fun h => .inr (Nat.le_trans hu.size h.1))) (Nat.le_refl _),
    hu.trans j3 (fun k hk e => (hf k e).elim id (fun h => absurd h.1 (by omega))), j4.trans hm⟩
theorem Dk.sync_loose (D : Dk) : D.sync.2.loose.length ≤ D.loose.length := by
  obtain ⟨h, _⟩ := Dk.ask_loose D 0 true
  unfold Dk.sync
  split
  · simp [Dk.op, Dk.firmed]
  · rw [h]; exact Nat.le_refl _
theorem Dk.lays_loose : ∀ (xs : List (List UInt8)) (D : Dk) (at_ : Int), (D.lays at_ xs).2.loose.length ≤ D.loose.length + xs.length
  | [], D, at_ => Dk.sync_loose D
  | b :: xs, D, at_ => by
    have h1 := Dk.write_loose D at_ b
    unfold Dk.lays
    split
    · have := Dk.lays_loose xs (D.write at_ b).2 (at_ + 1)
      simp only [List.length_cons]
      omega
    · simp only [List.length_cons]
      omega
set_option maxRecDepth 100000 in
set_option maxHeartbeats 2000000 in
theorem walBegin2 (w : World) (d : Nat) (D : Dk) (S : Nat → Prop) (h : IsDisk w d D S) (n turn : Int) (hn0 : 0 ≤ n) (hn : n ≤ 1000) (ht0 : 0 ≤ turn) (ht : turn < 4294967296) (hlo : D.loose.length ≤ 900000000)
    (b0 : Nat) (hb0 : w.heap[b0]? = some (.cells (bookC d n turn) 71 (0, 0))) :
    Calls Try.prog 66 #[.pointer (some ⟨b0, 0, none⟩)] w fun e w' => e = .returned (.int .i64 (D.step2 n turn).1) ∧ DskTo w w' d (D.step2 n turn).2 S := by
  have HI := Lib.hid h
  have MK : Hid (∀ w', Upd NoS w w' → w'.cell? ⟨b0, 0, none⟩ = some (.pointer (some ⟨d, 0, none⟩)) ∧ w'.cell? ⟨b0, 1, none⟩ = some (.int .i64 n) ∧ w'.cell? ⟨b0, 2, none⟩ = some (.int .u32 turn)) :=
    Lib.hid fun w' hu => ⟨cell_at (hu.heap hb0 id) 0, cell_at (hu.heap hb0 id) 1, cell_at (hu.heap hb0 id) 2⟩
  have h1 : turn.tmod 2 = turn % 2 := Int.tmod_eq_emod_of_nonneg ht0
  have h2 : 0 ≤ turn % 2 := Int.emod_nonneg _ (by decide)
  have h3 : turn % 2 < 2 := Int.emod_lt_of_pos _ (by decide)
  clear h hb0
  go_enter Try.func66, Try.ntmps66
  go_wp2
  refine wp_region_canon (fun w' => Upd NoS w w') 12 2 [10, 11] [0, 1, 2, 3, 4, 5, 6, 7, 8, 9, 10, 11] rfl (by kernel_rfl) (by decide) (by kernel_rfl) (by kernel_rfl) (by kernel_rfl) (by kernel_rfl) (by kernel_rfl) ((Upd.refl _ _).drew) ?_
  simp only [List.take_succ_cons, List.take_zero, List.drop_succ_cons, List.drop_zero, pick, List.getElem?_cons_succ, List.getElem?_cons_zero, Nat.reduceBEq, List.contains_cons, List.contains_nil, Bool.or_self, Bool.or_false, Bool.or_true, Bool.true_or, Bool.false_or]
  iterate 10 (refine wpD_quiet ?_ (fun w' hS => ?_) ?_; rotate_left; (· obtain ⟨f0, f1, f2⟩ := MK.out w' hS; go_simp; (try with_reducible rfl)); (try simp only [Act.put, List.setIfInBounds_toArray, List.set_cons_succ, List.set_cons_zero]))
  refine wpD_loud (fun K hK => ?_)
  go_wp2_with fail
  refine (walTitle _ turn n ht0 ht hn0 (by omega)).mono ?_
  rintro e1 w1 ⟨rfl, hu1⟩
  have HU1 := Lib.hid ((Upd.refl NoS w).drew.tr hu1)
  have HTL := Lib.hid (show (titleOf turn n).length = 64 from length_sealOf (by simp [length_be]))
  clear hu1
  go_wp2_with fail
  refine hK _ _ HU1.out ?_
  clear hK
  refine wpD_loud (fun K hK => ?_)
  go_wp2_with fail
  refine (walOnly w1 (titleOf turn n) 1).mono ?_
  rintro e2 w2 ⟨rfl, hw2⟩
  rw [← alloc2] at hw2
  have hu2 : Upd NoS w1 w2 := by rw [hw2]; exact alloc2_upd _ _ _
  have HU2 := Lib.hid (HU1.out.tr hu2)
  have HW2 := Lib.hid hw2
  clear hu2 hw2
  go_wp2_with fail
  refine hK _ _ HU2.out ?_
  clear hK
  refine wpD_nil ?_
  go_wp2_with (go_at_call 42; refine halted ?_)
  unfold Halted
  rw [HW2.out]
  refine (walLayOnly w1 d D S (HI.out.updNo HU1.out) (turn % 2) (by omega) (by omega) (titleOf turn n) HTL.out 1 (by decide) hlo).mono ?_
  rintro e3 w3 ⟨rfl, hto⟩
  have HTO := Lib.hid (hto.of2 HI.out HU1.out)
  clear hto
  go_wp2
  refine NoPanic.normal ?_
  go_wp2
  go_ret
  exact ⟨rfl, HTO.out⟩
def Dk.begin (D : Dk) (n turn : Int) (l : List UInt8) : Int × Dk := if (D.step1 n turn l).1 = 0 then (D.step1 n turn l).2.step2 n turn else D.step1 n turn l
set_option maxRecDepth 100000 in
set_option maxHeartbeats 2000000 in
theorem walBegin (w : World) (d : Nat) (D : Dk) (S : Nat → Prop) (h : IsDisk w d D S) (n turn : Int) (hn0 : 0 ≤ n) (hn : n ≤ 1000) (ht0 : 0 ≤ turn) (ht : turn < 4294967296)
    (e : Nat) (a : Option Addr) (c : Nat) (l : List UInt8) (hr : Rd w e 1 (.slice a l.length c) l.length (bvs l)) (hl : l.length ≤ 40000) (hnS : ∀ k, (Value.slice a l.length c).ownBlock = some k → ¬ S k) (hlo : D.loose.length ≤ 800000000) :
    Calls Try.prog 44 #[bookV d n turn, .slice a l.length c] w fun e w' => e = .returned (.int .i64 (D.begin n turn l).1) ∧ DskTo w w' d (D.begin n turn l).2 S := by
  have HI := Lib.hid h
  have HR := Lib.hid hr
  have HS := Lib.hid hnS
  clear h hr hnS
  unfold bookV
  go_enter Try.func44, Try.ntmps44
  go_wp2
  refine wp_name ?_
  intro Wb hWb
  obtain ⟨m, hm⟩ : ∃ m, m = w.heap.size := ⟨_, rfl⟩
  rw [← hm]
  have hu : Upd NoS w Wb := by rw [hWb]; exact (((Upd.refl NoS w).alloc _).alloc _).alloc _
  have hb0 : Wb.heap[m]? = some (.cells (bookC d n turn) 71 (0, 0)) := by rw [hWb, hm]; exact heap_old (heap_old (heap_new _ _))
  have hb1 : Wb.heap[m + 1]? = some (.cells #[.slice a l.length c] 35 (0, 0)) := by rw [hWb, hm]; exact heap_old (heap_new' (by simp))
  have hSl : ∀ k, S k → k < m := fun k hk => by have := HI.out.lt k hk; omega
  have hRl : ∀ k, (Value.slice a l.length c).ownBlock = some k → k < m := fun k hk => by have := HR.out.lt k hk; omega
  have HU := Lib.hid hu
  have HB0 := Lib.hid hb0
  have HB1 := Lib.hid hb1
  have HM := Lib.hid hm
  have hsz : m + 2 ≤ Wb.heap.size := by have := lt_of_heap hb1; omega
  have I0 := Lib.hid (HI.out.updNo hu)
  clear hWb hm hu hb0 hb1
  go_loopw [13] (fun kv wr => (kv = .int .i64 0 ∧ wr = Wb) ∨ (kv = .int .i64 1 ∧ (D.step1 n turn l).1 = 0 ∧ DskTo Wb wr d (D.step1 n turn l).2 S) ∨ (kv = .int .i64 2 ∧ (D.step1 n turn l).1 = 0 ∧ ((D.step1 n turn l).2.step2 n turn).1 = 0 ∧ DskTo Wb wr d ((D.step1 n turn l).2.step2 n turn).2 S)) (fun kv _ => 2 - (intOf kv).toNat)
  case atStart => exact .inl ⟨rfl, rfl⟩
  case round =>
    rcases hrel with ⟨rfl, rfl⟩ | ⟨rfl, h1, hto⟩ | ⟨rfl, h1, h2, hto⟩
    · have HX : ∀ w : World, (Instr.index 112 (.agg #[.func (.func 65) #[] #[.pointer (some ⟨m, 0, none⟩), .pointer (some ⟨m + 1, 0, none⟩)], .func (.func 66) #[] #[.pointer (some ⟨m, 0, none⟩)]]) (.int .i64 0)).run Try.prog w = .ok (.func (.func 65) #[] #[.pointer (some ⟨m, 0, none⟩), .pointer (some ⟨m + 1, 0, none⟩)]) w :=
        fun w => run_index_one (i := 0) Try.underlying112 Try.underlying94 rfl (by kernel_rfl) (by decide) rfl w
      go_wp2_with (go_at_call 65; refine halted ?_)
      unfold Halted
      refine (walBegin1 wr d D S I0.out n turn hn0 hn ht0 ht e a c l (HR.out.updNo HU.out) hl HS.out (by omega) m (m + 1) HB0.out HB1.out).mono ?_
      rintro e1 w1 ⟨rfl, hto⟩
      have HTO := Lib.hid hto
      clear hto HX
      by_cases e0 : (D.step1 n turn l).1 = 0
      · rw [e0]
        have E0 := Lib.hid e0
        clear e0
        go_wp2
        exact ⟨.inr (.inl ⟨rfl, E0.out, HTO.out⟩), by decide⟩
      · have hne : ((D.step1 n turn l).1 == 0) = false := by simpa using e0
        have E0 := Lib.hid e0
        clear e0
        go_wp2
        go_ret
        unfold Dk.begin
        rw [if_neg E0.out]
        exact ⟨rfl, HTO.out.of2 HI.out HU.out⟩
    · have HX : ∀ w : World, (Instr.index 112 (.agg #[.func (.func 65) #[] #[.pointer (some ⟨m, 0, none⟩), .pointer (some ⟨m + 1, 0, none⟩)], .func (.func 66) #[] #[.pointer (some ⟨m, 0, none⟩)]]) (.int .i64 1)).run Try.prog w = .ok (.func (.func 66) #[] #[.pointer (some ⟨m, 0, none⟩)]) w :=
        fun w => run_index_one (i := 1) Try.underlying112 Try.underlying94 rfl (by kernel_rfl) (by decide) rfl w
      have HTO := Lib.hid hto
      have H1 := Lib.hid h1
      clear hto h1
      go_wp2_with (go_at_call 66; refine halted ?_)
      unfold Halted
      obtain ⟨S1, j1, j2, j3, j4⟩ := HTO.out
      have hlo1 : (D.step1 n turn l).2.loose.length ≤ 900000000 := by
        have h2 := Dk.lays_loose ((leavesOf turn 0 l.length l).map Subtype.val) D (fromOf n turn)
        have h3 := length_leaves_le turn 0 l.length hl
        rw [List.length_map] at h2
        unfold Dk.step1
        omega
      refine (walBegin2 wr d _ S1 j1 n turn hn0 hn ht0 ht hlo1 m (j3.heap HB0.out (fun e => by have := hSl m e; omega))).mono ?_
      rintro e1 w1 ⟨rfl, hto⟩
      have hto' := DskTo.step I0.out j2 j3 j4 hto
      have HTO1 := Lib.hid hto'
      clear hto hto' HX j1 j2 j3 j4 hlo1
      by_cases e0 : ((D.step1 n turn l).2.step2 n turn).1 = 0
      · rw [e0]
        have E0 := Lib.hid e0
        clear e0
        go_wp2
        exact ⟨.inr (.inr ⟨rfl, H1.out, E0.out, HTO1.out⟩), by decide⟩
      · have hne : (((D.step1 n turn l).2.step2 n turn).1 == 0) = false := by simpa using e0
        have E0 := Lib.hid e0
        clear e0
        go_wp2
        go_ret
        unfold Dk.begin
        rw [if_pos H1.out]
        exact ⟨rfl, HTO1.out.of2 HI.out HU.out⟩
    · have HTO := Lib.hid hto
      have H1 := Lib.hid h1
      have H2 := Lib.hid h2
      clear hto h1 h2
      go_wp2
      go_ret
      unfold Dk.begin
      rw [if_pos H1.out, H2.out]
      exact ⟨rfl, HTO.out.of2 HI.out HU.out⟩
end Go.Proofs.Ytomgdfoahfhijaa
