/- wal: clears. -/
import Derived.Test.YtomgdfoahfhijaaWbd
set_option linter.unusedVariables false
set_option linter.unusedSimpArgs false
namespace Go.Proofs.Ytomgdfoahfhijaa
open Go.RowKit

def Dk.clearsGo (fr : Int) : Dk → Nat → List (List UInt8) → Bool → Int × Dk
  | D, _, [], sync => if sync then D.sync else (0, D)
  | D, i, s :: rest, sync =>
    if s = zero64 then D.clearsGo fr (i + 1) rest sync
    else if (D.write (fr + i) zero64).1 = 0 then (D.write (fr + i) zero64).2.clearsGo fr (i + 1) rest true
    else D.write (fr + i) zero64
def Dk.clears (D : Dk) (L : Wl) (f : List (List UInt8)) : Int × Dk := D.clearsGo (fromOf L.n L.turn) L.fin.toNat (f.drop L.fin.toNat) (decide (0 < D.loose.length))
theorem walC_book (d : Nat) (L : Wl) (v : Value) : ((walC d L v).toList.drop 0 |>.take 3).toArray = bookC d L.n L.turn := rfl
def ClI (W0 : World) (d : Nat) (D : Dk) (S : Nat → Prop) (fr : Int) (fin : Nat) (f : List (List UInt8)) (k : Nat) (sync : Bool) (W : World) : Prop :=
  ∃ Dc S', IsDisk W d Dc S' ∧ (∀ k, S' k → S k ∨ W0.heap.size ≤ k) ∧ Upd S W0 W ∧ D.clearsGo fr fin (f.drop fin) (decide (0 < D.loose.length)) = Dc.clearsGo fr k (f.drop k) sync ∧ Dc.loose.length ≤ D.loose.length + (k - fin)
set_option maxRecDepth 100000 in
set_option maxHeartbeats 4000000 in
theorem walClears (w : World) (p d : Nat) (D : Dk) (S : Nat → Prop) (L : Wl) (h : IsWal w p d D S L) (g o c : Nat) (f : List (List UInt8)) (hf : IsField w (.slice (some ⟨g, o, none⟩) f.length c) f) (hfl : (f.length : Int) = L.n) (hgS : ¬ S g) (hlo : D.loose.length ≤ 800000000) :
    Calls Try.prog 49 #[.pointer (some ⟨p, 0, none⟩), .slice (some ⟨g, o, none⟩) f.length c] w fun e w' => e = .returned (.int .i64 (D.clears L f).1) ∧ DskIn w w' d (D.clears L f).2 S := by
  have HI := Lib.hid h
  have HF := Lib.hid hf
  obtain ⟨va, vn, vc, hvc, hvs, rfl, hvcap⟩ := h.cells
  have hok := h.ok
  have k1 := hok.n0
  have k2 := hok.n1
  have k3 := hok.f1
  have k4 : 1 ≤ L.fin := by have := hok.s1; have := hok.s0; omega
  have k5 := hok.t0
  have k6 := hok.t1
  have HVC := Lib.hid hvc
  have q0 := cell_at hvc 0
  have q1 := cell_at hvc 1
  have q4 := cell_at hvc 4
  simp only [walC, List.getElem?_toArray, List.getElem?_cons_zero, List.getElem?_cons_succ] at q0 q1 q4
  clear h hf hvc hvs hok
  obtain ⟨fn, hfn⟩ : ∃ fn : Nat, L.fin = fn := ⟨L.fin.toNat, by omega⟩
  rw [hfn] at q4 k3 k4
  have HFN := Lib.hid hfn
  go_enter Try.func49, Try.ntmps49
  go_wp2_with (go_at_call 38; refine halted ?_)
  unfold Halted
  refine (dskPending w d D S HI.out.disk (by omega)).mono ?_
  rintro e1 w1 ⟨⟨a1, c1, rfl⟩, hu1⟩
  have HU1 := Lib.hid hu1
  have hll : D.loose.length ≤ 9223372036854775807 := by omega
  have r4 := cell_at (hu1.heap HVC.out id) 4
  have r1 := cell_at (hu1.heap HVC.out id) 1
  simp only [walC, List.getElem?_toArray, List.getElem?_cons_zero, List.getElem?_cons_succ] at r1 r4
  rw [hfn] at r4
  clear hu1 q0 q1 q4 hfn
  go_wp2
  obtain ⟨cur, frz, hgc, hcut⟩ : ∃ cur fr, w.heap[g]? = some (.cells cur 80 fr) ∧ (cur.toList.drop o).take (f.length * 64) = f.flatMap bvs := by
    obtain ⟨_, ⟨h1, _⟩ | ⟨g', o', c', cur, fr, hv, _, _, hh, ht⟩⟩ := HF.out.1
    · cases h1
    · cases hv; exact ⟨cur, fr, hh, ht⟩
  have hcs : o + f.length * 64 ≤ cur.size := by
    have := congrArg List.length hcut
    have hL : cur.toList.length = cur.size := Array.length_toList
    rw [List.length_take, List.length_drop, length_flat HF.out.2, hL] at this
    have h8 := Nat.min_le_right (f.length * 64) (cur.size - o)
    rw [this] at h8
    omega
  have HEL : Hid (∀ i s', f[i]? = some s' → ((cur.toList.drop (o + i * 64)).take 64).toArray = (bvs s').toArray) := Lib.hid fun i s' hi => by
    have hlt := (List.getElem?_eq_some_iff.1 hi).1
    have := field_get HF.out.2 hi
    rw [← hcut, List.drop_take, List.drop_drop, List.take_take, show min 64 (f.length * 64 - i * 64) = 64 by omega] at this
    rw [this]
  have HGC := Lib.hid (HU1.out.heap hgc id)
  have HP1 := Lib.hid (HU1.out.heap HVC.out id)
  have HI1 := Lib.hid (HI.out.disk.updNo HU1.out)
  have hSl : ∀ k, S k → k < w1.heap.size := HI1.out.lt
  have hgl := lt_of_heap HGC.out
  have hpl := lt_of_heap HP1.out
  have hpS := HI.out.2.1
  obtain ⟨hf2, hf3⟩ := fromOf_le (n := L.n) (turn := L.turn) (by omega) k2
  obtain ⟨fr, hfr⟩ : ∃ fr, fr = fromOf L.n L.turn := ⟨_, rfl⟩
  rw [← hfr] at hf2 hf3
  have HFR := Lib.hid hfr
  have HCL : Hid (D.clears L f = D.clearsGo fr fn (f.drop fn) (decide (0 < D.loose.length))) := Lib.hid (by unfold Dk.clears; rw [← hfr, HFN.out]; rfl)
  clear hgc hcut hfr r1 r4
  go_loopw [6, 5] (fun iv sv wr => ∃ (k : Nat) (sync : Bool), fn ≤ k ∧ (k : Int) ≤ L.n ∧ iv = .int .i64 k ∧ sv = .bool sync ∧ ClI w1 d D S fr fn f k sync wr) (fun iv _ _ => L.n.toNat - (intOf iv).toNat)
  case atStart => exact ⟨fn, decide (0 < D.loose.length), Nat.le_refl _, k3, rfl, by congr 1, D, S, HI1.out, fun _ h => .inl h, Upd.refl _ _, rfl, by omega⟩
  case round =>
    obtain ⟨k, sync, hk1, hk2, rfl, rfl, Dc, S1, i1, i2, i3, i4, i5⟩ := hrel
    have I1 := Lib.hid i1
    have I2 := Lib.hid i2
    have I3 := Lib.hid i3
    have I4 := Lib.hid i4
    have hp := i3.heap HP1.out hpS
    have q0 := cell_at hp 0
    have q1 := cell_at hp 1
    simp only [walC, List.getElem?_toArray, List.getElem?_cons_zero, List.getElem?_cons_succ] at q0 q1
    have HPR := Lib.hid hp
    have hk10 : k ≤ 1000 := by omega
    clear i1 i2 i3 i4 hp
    by_cases hlt : (k : Int) < L.n
    · obtain ⟨s', hs'⟩ : ∃ s', f[k]? = some s' := ⟨_, List.getElem?_eq_getElem (by omega)⟩
      have hkf : (k : Int) < f.length := by omega
      have h64' := HF.out.2 s' (List.mem_of_getElem? hs')
      have hcut2 : f.drop k = s' :: f.drop (k + 1) := by
        rw [List.drop_eq_getElem_cons (by omega)]
        congr 1
        exact (List.getElem?_eq_some_iff.1 hs').2
      have HE := Lib.hid (HEL.out k s' hs')
      have hob : o + k * 64 + 64 ≤ cur.size := by omega
      have HI4 : Hid (D.clearsGo fr fn (f.drop fn) (decide (0 < D.loose.length)) = if s' = zero64 then Dc.clearsGo fr (k + 1) (f.drop (k + 1)) sync
          else if (Dc.write (fr + k) zero64).1 = 0 then (Dc.write (fr + k) zero64).2.clearsGo fr (k + 1) (f.drop (k + 1)) true else Dc.write (fr + k) zero64) := Lib.hid (by rw [I4.out, hcut2]; rfl)
      clear hs' hcut2
      by_cases hz : s' = zero64
      · have HI5 : Hid (D.clearsGo fr fn (f.drop fn) (decide (0 < D.loose.length)) = Dc.clearsGo fr (k + 1) (f.drop (k + 1)) sync) := Lib.hid (by rw [HI4.out, if_pos hz])
        have hb : (s' == zero64) = true := by simpa using hz
        clear hz
        go_wp2_with (first
          | (refine wpList_loadA (off := o + k * 64) (I3.out.heap HGC.out hgS) Try.underlying80 rfl sizeBlock hob rfl rfl rfl ?_; rw [HE.out])
          | (refine wpList_val rfl (exec_eql_block (b := zero64) rfl rfl rfl h64' rfl) ?_; rw [hb]))
        exact ⟨⟨k + 1, sync, by omega, by omega, by go_num, rfl, Dc, S1, I1.out, I2.out, I3.out, HI5.out, by omega⟩, by simp [intOf]; omega⟩
      · have hb : (s' == zero64) = false := by simpa using hz
        have HI5 : Hid (D.clearsGo fr fn (f.drop fn) (decide (0 < D.loose.length)) = if (Dc.write (fr + k) zero64).1 = 0 then (Dc.write (fr + k) zero64).2.clearsGo fr (k + 1) (f.drop (k + 1)) true else Dc.write (fr + k) zero64) := Lib.hid (by rw [HI4.out, if_neg hz])
        clear hz
        go_wp2_with (first
          | (refine wpList_loadA (off := o + k * 64) (I3.out.heap HGC.out hgS) Try.underlying80 rfl sizeBlock hob rfl rfl rfl ?_; rw [HE.out])
          | (refine wpList_val rfl (exec_eql_block (b := zero64) rfl rfl rfl h64' rfl) ?_; rw [hb]))
        have MK : Hid (∀ w', Upd NoS wr w' → w'.cell? ⟨p, 0, none⟩ = some (.pointer (some ⟨d, 0, none⟩)) ∧ w'.cell? ⟨p, 1, none⟩ = some (.int .i64 L.n) ∧ w'.heap[p]? = some (.cells (walC d L (.slice va L.said.length vc)) 73 (0, 0))) :=
          Lib.hid fun w' hu => ⟨cell_at (hu.heap HPR.out id) 0, cell_at (hu.heap HPR.out id) 1, hu.heap HPR.out id⟩
        refine wp_region_canon (fun w' => Upd NoS wr w') 13 2 [9] [0, 1, 2, 3, 4, 5, 6, 7, 8, 10, 12, 9, 11] rfl (by kernel_rfl) (by decide) (by kernel_rfl) (by kernel_rfl) (by kernel_rfl) (by kernel_rfl) (by kernel_rfl) ((Upd.refl _ _).drew) ?_
        simp only [List.take_succ_cons, List.take_zero, List.drop_succ_cons, List.drop_zero, pick, List.getElem?_cons_succ, List.getElem?_cons_zero, Nat.reduceBEq, List.contains_cons, List.contains_nil, Bool.or_self, Bool.or_false, Bool.or_true, Bool.true_or, Bool.false_or]
        iterate 8 (refine wpD_quiet ?_ (fun w' hS => ?_) ?_; rotate_left; (· obtain ⟨f0, f1, _⟩ := MK.out w' hS; go_simp; (try with_reducible rfl)); (try simp only [Act.put, List.setIfInBounds_toArray, List.set_cons_succ, List.set_cons_zero]))
        refine wpD_quiet (.agg (bookC d L.n L.turn)) (fun w' hS => (exec_loadA (off := 0) (MK.out w' hS).2.2 Try.underlying71 rfl sizeBook (show 0 + 3 ≤ 6 by decide) rfl rfl).trans (by rw [walC_book])) ?_
        simp only [Act.put, List.setIfInBounds_toArray, List.set_cons_succ, List.set_cons_zero]
        iterate 2 (refine wpD_quiet ?_ (fun w' hS => ?_) ?_; rotate_left; (· obtain ⟨f0, f1, _⟩ := MK.out w' hS; go_simp; (try with_reducible rfl)); (try simp only [Act.put, List.setIfInBounds_toArray, List.set_cons_succ, List.set_cons_zero]))
        refine wpD_loud (fun K hK => ?_)
        go_wp2_with fail
        refine (walFrom _ d L.n L.turn (by omega) k2 k5 k6).mono ?_
        rintro e7 w7 ⟨rfl, hu7⟩
        have HU7 := Lib.hid ((Upd.refl NoS wr).drew.tr hu7)
        clear hu7
        go_wp2_with fail
        refine hK _ _ HU7.out ?_
        clear hK
        rw [← HFR.out]
        iterate 1 (refine wpD_quiet ?_ (fun w' hS => ?_) ?_; rotate_left; (· obtain ⟨f0, f1, _⟩ := MK.out w' hS; go_simp; (try with_reducible rfl)); (try simp only [Act.put, List.setIfInBounds_toArray, List.set_cons_succ, List.set_cons_zero]))
        refine wpD_nil ?_
        have hwa : IntKind.i64.wrap (fr + k) = fr + k := by rw [IntKind.wrap_i64]; omega
        try rw [hwa]
        clear hwa
        go_wp2_with (go_at_call 62; refine halted ?_)
        unfold Halted
        rw [zero64_lit]
        refine (dskWrite w7 d Dc S1 (I1.out.updNo HU7.out) (fr + k) zero64 rfl (by omega)).mono ?_
        rintro e8 w8 ⟨rfl, hto⟩
        obtain ⟨S2, j1, j2, j3, j4⟩ := hto
        have hu18 : Upd S w1 w8 := (I3.out.trNo HU7.out).trans j3 (fun j hj e => (I2.out j e).elim id (fun h => by omega))
        have hS2 : ∀ j, S2 j → S j ∨ w1.heap.size ≤ j := fun j hj => (j2 j hj).elim (I2.out j) (fun h => .inr (by have := h.1; have := hu18.size; have := I3.out.size; have := HU7.out.size; omega))
        have hlw := Dk.write_loose Dc (fr + k) zero64
        obtain ⟨R, hR⟩ : ∃ R, R = Dc.write (fr + k) zero64 := ⟨_, rfl⟩
        rw [← hR] at j1 hlw HI5 ⊢
        have J1 := Lib.hid j1
        have HS2 := Lib.hid hS2
        have HU18 := Lib.hid hu18
        clear j1 j2 j3 j4 hR hS2 hu18
        by_cases e0 : R.1 = 0
        · have HI6 : Hid (D.clearsGo fr fn (f.drop fn) (decide (0 < D.loose.length)) = R.2.clearsGo fr (k + 1) (f.drop (k + 1)) true) := Lib.hid (by rw [HI5.out, if_pos e0])
          rw [e0]
          clear e0 HI5
          go_wp2
          refine NoPanic.normal ?_
          go_wp2
          exact ⟨⟨k + 1, true, by omega, by omega, by go_num, rfl, R.2, S2, J1.out, HS2.out, HU18.out, HI6.out, by omega⟩, by simp [intOf]; omega⟩
        · have HI6 : Hid (D.clears L f = R) := Lib.hid (by rw [HCL.out, HI5.out, if_neg e0])
          have hne : (R.1 == 0) = false := by simpa using e0
          clear e0 HI5
          go_wp2
          refine NoPanic.normal ?_
          go_wp2
          go_ret
          rw [HI6.out]
          exact ⟨rfl, S2, J1.out, fun j hj => (HS2.out j hj).imp id (fun h => by have := HU1.out.size; omega), HU1.out.of_no.tr HU18.out⟩
    · obtain hke : (k : Int) = L.n := by omega
      have hd0 : f.drop k = [] := List.drop_of_length_le (by omega)
      have HI5 : Hid (D.clears L f = if sync then Dc.sync else (0, Dc)) := Lib.hid (by rw [HCL.out, I4.out, hd0]; rfl)
      clear hd0
      cases sync with
      | false =>
        go_wp2
        go_ret
        rw [HI5.out]
        exact ⟨rfl, S1, I1.out, fun j hj => (I2.out j hj).imp id (fun h => by have := HU1.out.size; omega), HU1.out.of_no.tr I3.out⟩
      | true =>
        go_wp2_with (go_at_call 63; refine halted ?_)
        unfold Halted
        refine (dskSync wr d Dc S1 I1.out (by omega)).mono ?_
        rintro e8 w8 ⟨rfl, hto⟩
        obtain ⟨S2, j1, j2, j3, j4⟩ := hto
        have hu18 : Upd S w1 w8 := I3.out.trans j3 (fun j hj e => (I2.out j e).elim id (fun h => by omega))
        have hS2 : ∀ j, S2 j → S j ∨ w1.heap.size ≤ j := fun j hj => (j2 j hj).elim (I2.out j) (fun h => .inr (by have := h.1; have := I3.out.size; omega))
        have J1 := Lib.hid j1
        have HS2 := Lib.hid hS2
        have HU18 := Lib.hid hu18
        clear j1 j2 j3 j4 hS2 hu18
        go_wp2
        go_ret
        rw [HI5.out]
        exact ⟨rfl, S2, J1.out, fun j hj => (HS2.out j hj).imp id (fun h => by have := HU1.out.size; omega), HU1.out.of_no.tr HU18.out⟩
end Go.Proofs.Ytomgdfoahfhijaa
