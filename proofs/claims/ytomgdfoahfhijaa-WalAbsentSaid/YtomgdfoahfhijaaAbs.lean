/- A log that is not there (safehouselaw04.WalAbsent): its walk. -/
import Derived.Test.YtomgdfoahfhijaaWcd
set_option linter.unusedVariables false
set_option linter.unusedSimpArgs false
namespace Go.Proofs.Ytomgdfoahfhijaa
open Go.RowKit
attribute [local go_sem] Oper.semAt_some

def encU (_ : Unit) : Array Value := #[.int .i64 0, .slice none 0 0]
set_option maxRecDepth 100000 in
theorem allNilTells (w : World) (b1 : Nat) (h1 : w.heap[b1]? = some (.cells #[.slice none 0 0] 51 (0, 0))) :
    Tells Try.prog 50 #[.pointer (some ⟨b1, 0, none⟩)] encU (fun _ => False) [] w := by
  intro l J Jx W hW hJ hJx hY h0
  have q0 := cell_at ((hW.block b1 (lt_of_heap h1)).trans h1) 0
  simp only [List.getElem?_toArray, List.getElem?_cons_zero] at q0
  clear h1 hW hY
  refine callsIn_of_wp Try.func50 rfl trivial ?_ rfl
  simp only [Try.ntmps50, List.size_toArray, List.length_cons, List.length_nil, Nat.reduceAdd, Nat.reduceSub, Array.replicate_succ, Array.replicate_zero, List.push_toArray, List.append_toArray, List.nil_append, List.cons_append]
  gi_wp2
  clear q0
  gi_loopw [7] (fun i wr => i = .int .i64 0 ∧ J [] wr) (fun i _ => 0)
  case atStart => exact ⟨rfl, h0⟩
  case round =>
    obtain ⟨rfl, hJs⟩ := hrel
    have HJ := Lib.hid hJs
    clear hJs
    gi_wp2
    go_end0
    exact ⟨⟨_, rfl⟩, .inl ⟨_, rfl, HJ.out⟩⟩
theorem walAllNil (w : World) : Calls Try.prog 23 #[.pointer none] w fun e w' => e = .returned (.func (.func 50) #[] #[.pointer (some ⟨w.heap.size, 0, none⟩)]) ∧ w' = w.alloc (.cells #[.slice none 0 0] 51) := by
  go_enter Try.func23, Try.ntmps23
  go_wp2
  go_ret
  exact ⟨rfl, rfl⟩
set_option maxRecDepth 100000 in
theorem walAppendNil (w : World) (v : Value) : Calls Try.prog 24 #[.pointer none, v] w fun e w' => e = .returned (.int .i64 1) ∧ Upd NoS w w' := by
  go_enter_defers Try.func24, Try.ntmps24
  go_wp2_with (go_at_call 51; refine (walRefNil _ v).mono ?_; rintro e w' ⟨rfl, rfl⟩)
  have hg2 : ((w.alloc (.cells #[.int .i64 0] 38)).setCell ⟨w.heap.size, 0, none⟩ (.int .i64 1)).cell? ⟨w.heap.size, 0, none⟩ = some (.int .i64 1) := cell_at (heap_set (heap_new _ _) 0 _) 0
  refine ⟨.int .i64 1, by simp [results, Try.results24, go_sem, hg2], rfl, ?_⟩
  exact (Upd.refl NoS w).alloc _
set_option maxRecDepth 100000 in
theorem walCheckNil (w : World) (v : Value) : Calls Try.prog 25 #[.pointer none, v] w fun e w' => e = .returned (.int .i64 1) ∧ Upd NoS w w' := by
  go_enter_defers Try.func25, Try.ntmps25
  go_wp2_with (go_at_call 51; refine (walRefNil _ v).mono ?_; rintro e w' ⟨rfl, rfl⟩)
  have hg2 : ((w.alloc (.cells #[.int .i64 0] 38)).setCell ⟨w.heap.size, 0, none⟩ (.int .i64 1)).cell? ⟨w.heap.size, 0, none⟩ = some (.int .i64 1) := cell_at (heap_set (heap_new _ _) 0 _) 0
  refine ⟨.int .i64 1, by simp [results, Try.results25, go_sem, hg2], rfl, ?_⟩
  exact (Upd.refl NoS w).alloc _
set_option maxRecDepth 100000 in
set_option maxHeartbeats 1000000 in
theorem walAbsentIs (w : World) (v : Value) (area : Int) : Calls Try.prog 5 #[v, .int .i64 area] w fun e w' => e = .returned (.bool true) ∧ Upd NoS w w' := by
  refine calls_of_wp_marks (fn := Try.f5) Try.func5 rfl ?_
  simp only [Try.ntmps5, List.size_toArray, List.length_cons, List.length_nil, Nat.reduceAdd, Nat.reduceSub, Array.replicate_succ, Array.replicate_zero, List.push_toArray, List.append_toArray, List.nil_append, List.cons_append]
  go_wp2_with (go_at_call 9; refine halted ?_)
  unfold Halted
  refine calls_name ?_
  intro W1 hW1
  have hu1 : Upd NoS w W1 := by rw [hW1]; exact (Upd.refl NoS w).alloc _
  have hg1 : W1.heap[w.heap.size]? = some (.cells #[.bool false] 4 (0, 0)) := by rw [hW1]; exact heap_new _ _
  clear hW1
  obtain ⟨n, hn⟩ : ∃ n, n = w.heap.size := ⟨_, rfl⟩
  rw [← hn] at hg1 ⊢
  have HN := Lib.hid hn
  have HU1 := Lib.hid hu1
  have HG1 := Lib.hid hg1
  clear hn hu1 hg1
  refine (wakesIs W1).mono ?_
  rintro e1 w1 ⟨rfl, hu⟩
  have HU := Lib.hid hu
  clear hu
  go_wp2_with (first
    | (go_at_call 21; refine (walFormatNil _ _).mono ?_; rintro e w' ⟨rfl, rfl⟩)
    | (go_at_call 22; refine (walOpenNil _).mono ?_; rintro e w' ⟨rfl, rfl⟩)
    | (go_at_call 23; refine (walAllNil _).mono ?_; rintro e w' ⟨rfl, rfl⟩; refine halted ?_))
  unfold Halted
  obtain ⟨nb, hnb⟩ : ∃ nb, nb = w'.heap.size := ⟨_, rfl⟩
  rw [← hnb]
  have HNB := Lib.hid hnb
  clear hnb
  go_wp2
  refine wp_name ?_
  intro Wb hWb
  have hub : Upd NoS w' Wb := by rw [hWb]; exact (Upd.refl NoS w').alloc _
  have hbb : Wb.heap[nb]? = some (.cells #[.slice none 0 0] 51 (0, 0)) := by rw [hWb, HNB.out]; exact heap_new _ _
  clear hWb
  have HUB := Lib.hid ((HU1.out.tr HU.out).tr hub)
  have HGB := Lib.hid (hub.heap (HU.out.heap HG1.out id) id)
  clear hub
  refine wp_rangeFunc rfl (by kernel_rfl) (allNilTells Wb nb hbb) (fun k hk => hk.elim) (fun x => rfl) (fun pre W => Upd NoS Wb W) (fun c pre W => False) updOwn (fun _ _ _ _ _ h _ _ => h) (Upd.refl _ _) (fun _ _ _ => True) (fun _ _ _ _ _ _ h _ _ => h) ?assign ?body ?done ?stop
  case assign =>
    rintro l pre x W K' hI hK'
    simp only [encU]
    have HI := Lib.hid hI
    clear hI
    gi_wp2
    exact hK' _ _ (keepsOf (Upd.refl NoS W) (fun _ _ h => h.elim)) (fun k hk => rfl) HI.out trivial
  case body =>
    rintro l pre x a' W hl hr hI hA hlen
    exact absurd hlen (Nat.not_lt_zero _)
  case stop =>
    rintro D c pre W hD hpre h
    exact h.elim
  case done =>
    rintro D W hD hI hDk
    have HI := Lib.hid hI
    have HDK := Lib.hid hDk
    clear hI hDk
    go_wp2_with (first
      | (go_at_call 24; refine halted ?_))
    unfold Halted
    refine (walAppendNil W v).mono ?_
    rintro e2 W2 ⟨rfl, hu2⟩
    have HU2 := Lib.hid hu2
    clear hu2
    go_wp2_with (first
      | (go_at_call 25; refine halted ?_))
    unfold Halted
    refine (walCheckNil W2 v).mono ?_
    rintro e3 W3 ⟨rfl, hu3⟩
    have HU3 := Lib.hid ((HI.out.tr HU2.out).tr hu3)
    have HDK3 := Lib.hid (hu3.heap (HU2.out.heap HDK.out id) id)
    have hg3 := HU3.out.heap HGB.out id
    have HG3 := Lib.hid hg3
    have hnD : n ≠ D := fun e => by have h1 := HU3.out.heap HGB.out id; have h2 := HDK3.out; rw [e] at h1; rw [h1] at h2; cases h2
    have q3 := cell_at hg3 0
    have f3 := free_at hg3 0
    simp only [List.getElem?_toArray, List.getElem?_cons_zero] at q3
    clear hu3 hg3
    go_wp2_with (first
      | (go_at_call 26; refine (walSnapNil _).mono ?_; rintro e w' ⟨rfl, rfl⟩)
      | (go_at_call 27; refine (walLenNil _).mono ?_; rintro e w' ⟨rfl, rfl⟩)
      | (go_at_call 18; refine (walLeftNil _).mono ?_; rintro e w' ⟨rfl, rfl⟩)
      | (go_at_call 19; refine (walTurnNil _).mono ?_; rintro e w' ⟨rfl, rfl⟩)
      | (go_at_call 20; refine (walBrokenNil _).mono ?_; rintro e w' ⟨rfl, rfl⟩)
      | (go_at_call 28; refine (walDiskNil _).mono ?_; rintro e w' ⟨rfl, rfl⟩))
    rename World => Wc
    have hset : Upd (OneS n) Wc (Wc.setCell ⟨n, 0, none⟩ (.bool true)) := (Upd.refl _ Wc).setCell _ _ (fun _ => rfl)
    have hs4 := heap_set HG3.out 0 (.bool true)
    have hd4 := hset.heap HDK3.out (fun e => hnD e.symm)
    obtain ⟨W4, hW4⟩ : ∃ W4, W4 = Wc.setCell ⟨n, 0, none⟩ (.bool true) := ⟨_, rfl⟩
    rw [← hW4] at hset hs4 hd4 ⊢
    have hu5 : Upd (fun k => k = D) W4 (W4.putObj D (.deferred none)) := (Upd.refl _ W4).grown (grownBy_putObj' W4 D (.deferred none)) (fun k hk _ => (Option.some.inj hk).symm)
    have hg5 := cell_at (hu5.heap hs4 (fun e => hnD e)) 0
    have hwb := HUB.out.size
    have hn := HN.out
    refine ⟨by simp, .inl ⟨_, _, rfl, run_takeDeferred hd4, ?_⟩⟩
    refine ⟨.bool true, by simp [results, Try.results5, go_sem, hg5], rfl, ?_⟩
    exact ((HUB.out.tr HU3.out).trans hset (fun k hk e => by rw [show k = n from e] at hk; omega)).trans hu5 (fun k hk e => by rw [show k = D from e] at hk; omega)
end Go.Proofs.Ytomgdfoahfhijaa
