/- wal: clears. wal: Open: what is found. -/
import Derived.Test.YtomgdfoahfhijaaWbd
set_option linter.unusedVariables false
set_option linter.unusedSimpArgs false
namespace Go.Proofs.Ytomgdfoahfhijaa
open Go.RowKit

def Dk.clearsGo (fr : Int) : Dk → Nat → List (List UInt8) → Bool → Int × Dk
  | D, _, [], sync => if sync then D.sync else (0, D)
  | D, i, s :: rest, sync =>
    if s = zero64 then D.clearsGo fr (i + 1) rest sync
    else if (D.write (fr + i) zero64).1 = 0 then (D.write (fr + i) zero64).2.clearsGo fr (i + 1) rest true
    else D.write (fr + i) zero64
def Dk.clears (D : Dk) (L : Wl) (f : List (List UInt8)) : Int × Dk := D.clearsGo (fromOf L.n L.turn) L.fin.toNat (f.drop L.fin.toNat) (decide (0 < D.loose.length))
theorem walC_book (d : Nat) (L : Wl) (v : Value) : ((walC d L v).toList.drop 0 |>.take 3).toArray = bookC d L.n L.turn := rfl
def ClI (W0 : World) (d : Nat) (D : Dk) (S : Nat → Prop) (fr : Int) (fin : Nat) (f : List (List UInt8)) (k : Nat) (sync : Bool) (W : World) : Prop :=
  ∃ Dc S', IsDisk W d Dc S' ∧ (∀ k, S' k → S k ∨ W0.heap.size ≤ k) ∧ Upd S W0 W ∧ D.clearsGo fr fin (f.drop fin) (decide (0 < D.loose.length)) = Dc.clearsGo fr k (f.drop k) sync ∧ Dc.loose.length ≤ D.loose.length + (k - fin)
set_option maxRecDepth 100000 in
set_option maxHeartbeats 4000000 in
theorem walClears (w : World) (p d : Nat) (D : Dk) (S : Nat → Prop) (L : Wl) (h : IsWal w p d D S L) (g o c : Nat) (f : List (List UInt8)) (hf : IsField w (.slice (some ⟨g, o, none⟩) f.length c) f) (hfl : (f.length : Int) = L.n) (hgS : ¬ S g) (hlo : D.loose.length ≤ 800000000) :
    Calls Try.prog 49 #[.pointer (some ⟨p, 0, none⟩), .slice (some ⟨g, o, none⟩) f.length c] w fun e w' => e = .returned (.int .i64 (D.clears L f).1) ∧ DskIn w w' d (D.clears L f).2 S := by
  have HI := Lib.hid h
  have HF := Lib.hid hf
  obtain ⟨va, vn, vc, hvc, hvs, rfl, hvcap⟩ := h.cells
  have hok := h.ok
  have k1 := hok.n0
  have k2 := hok.n1
  have k3 := hok.f1
  have k4 : 1 ≤ L.fin := by have := hok.s1; have := hok.s0; omega
  have k5 := hok.t0
  have k6 := hok.t1
  have HVC := Lib.hid hvc
  have q0 := cell_at hvc 0
  have q1 := cell_at hvc 1
  have q4 := cell_at hvc 4
  simp only [walC, List.getElem?_toArray, List.getElem?_cons_zero, List.getElem?_cons_succ] at q0 q1 q4
  clear h hf hvc hvs hok
  obtain ⟨fn, hfn⟩ : ∃ fn : Nat, L.fin = fn := ⟨L.fin.toNat, by omega⟩
  rw [hfn] at q4 k3 k4
  have HFN := Lib.hid hfn
  go_enter Try.func49, Try.ntmps49
  go_wp2_with (go_at_call 38; refine halted ?_)
  unfold Halted
  refine (dskPending w d D S HI.out.disk (by omega)).mono ?_
  rintro e1 w1 ⟨⟨a1, c1, rfl⟩, hu1⟩
  have HU1 := Lib.hid hu1
  have hll : D.loose.length ≤ 9223372036854775807 := by omega
  have r4 := cell_at (hu1.heap HVC.out id) 4
  have r1 := cell_at (hu1.heap HVC.out id) 1
  simp only [walC, List.getElem?_toArray, List.getElem?_cons_zero, List.getElem?_cons_succ] at r1 r4
  rw [hfn] at r4
  clear hu1 q0 q1 q4 hfn
  go_wp2
  obtain ⟨cur, frz, hgc, hcut⟩ : ∃ cur fr, w.heap[g]? = some (.cells cur 80 fr) ∧ (cur.toList.drop o).take (f.length * 64) = f.flatMap bvs := by
    obtain ⟨_, ⟨h1, _⟩ | ⟨g', o', c', cur, fr, hv, _, _, hh, ht⟩⟩ := HF.out.1
    · cases h1
    · cases hv; exact ⟨cur, fr, hh, ht⟩
  have hcs : o + f.length * 64 ≤ cur.size := by
    have := congrArg List.length hcut
    have hL : cur.toList.length = cur.size := Array.length_toList
    rw [List.length_take, List.length_drop, length_flat HF.out.2, hL] at this
    have h8 := Nat.min_le_right (f.length * 64) (cur.size - o)
    rw [this] at h8
    omega
  have HEL : Hid (∀ i s', f[i]? = some s' → ((cur.toList.drop (o + i * 64)).take 64).toArray = (bvs s').toArray) := Lib.hid fun i s' hi => by
    have hlt := (List.getElem?_eq_some_iff.1 hi).1
    have := field_get HF.out.2 hi
    rw [← hcut, List.drop_take, List.drop_drop, List.take_take, show min 64 (f.length * 64 - i * 64) = 64 by omega] at this
    rw [this]
  have HGC := Lib.hid (HU1.out.heap hgc id)
  have HP1 := Lib.hid (HU1.out.heap HVC.out id)
  have HI1 := Lib.hid (HI.out.disk.updNo HU1.out)
  have hSl : ∀ k, S k → k < w1.heap.size := HI1.out.lt
  have hgl := lt_of_heap HGC.out
  have hpl := lt_of_heap HP1.out
  have hpS := HI.out.2.1
  obtain ⟨hf2, hf3⟩ := fromOf_le (n := L.n) (turn := L.turn) (by omega) k2
  obtain ⟨fr, hfr⟩ : ∃ fr, fr = fromOf L.n L.turn := ⟨_, rfl⟩
  rw [← hfr] at hf2 hf3
  have HFR := Lib.hid hfr
  have HCL : Hid (D.clears L f = D.clearsGo fr fn (f.drop fn) (decide (0 < D.loose.length))) := Lib.hid (by unfold Dk.clears; rw [← hfr, HFN.out]; rfl)
  clear hgc hcut hfr r1 r4
  go_loopw [6, 5] (fun iv sv wr => ∃ (k : Nat) (sync : Bool), fn ≤ k ∧ (k : Int) ≤ L.n ∧ iv = .int .i64 k ∧ sv = .bool sync ∧ ClI w1 d D S fr fn f k sync wr) (fun iv _ _ => L.n.toNat - (intOf iv).toNat)
  case atStart => exact ⟨fn, decide (0 < D.loose.length), Nat.le_refl _, k3, rfl, by congr 1, D, S, HI1.out, fun _ h => .inl h, Upd.refl _ _, rfl, by omega⟩
  case round =>
    obtain ⟨k, sync, hk1, hk2, rfl, rfl, Dc, S1, i1, i2, i3, i4, i5⟩ := hrel
    have I1 := Lib.hid i1
    have I2 := Lib.hid i2
    have I3 := Lib.hid i3
    have I4 := Lib.hid i4
    have hp := i3.heap HP1.out hpS
    have q0 := cell_at hp 0
    have q1 := cell_at hp 1
    simp only [walC, List.getElem?_toArray, List.getElem?_cons_zero, List.getElem?_cons_succ] at q0 q1
    have HPR := Lib.hid hp
    have hk10 : k ≤ 1000 := by omega
    clear i1 i2 i3 i4 hp
    by_cases hlt : (k : Int) < L.n
    · obtain ⟨s', hs'⟩ : ∃ s', f[k]? = some s' := ⟨_, List.getElem?_eq_getElem (by omega)⟩
      have hkf : (k : Int) < f.length := by omega
      have h64' := HF.out.2 s' (List.mem_of_getElem? hs')
      have hcut2 : f.drop k = s' :: f.drop (k + 1) := by
        rw [List.drop_eq_getElem_cons (by omega)]
        congr 1
        exact (List.getElem?_eq_some_iff.1 hs').2
      have HE := Lib.hid (HEL.out k s' hs')
      have hob : o + k * 64 + 64 ≤ cur.size := by omega
      have HI4 : Hid (D.clearsGo fr fn (f.drop fn) (decide (0 < D.loose.length)) = if s' = zero64 then Dc.clearsGo fr (k + 1) (f.drop (k + 1)) sync
          else if (Dc.write (fr + k) zero64).1 = 0 then (Dc.write (fr + k) zero64).2.clearsGo fr (k + 1) (f.drop (k + 1)) true else Dc.write (fr + k) zero64) := Lib.hid (by rw [I4.out, hcut2]; rfl)
      clear hs' hcut2
      by_cases hz : s' = zero64
      · have HI5 : Hid (D.clearsGo fr fn (f.drop fn) (decide (0 < D.loose.length)) = Dc.clearsGo fr (k + 1) (f.drop (k + 1)) sync) := Lib.hid (by rw [HI4.out, if_pos hz])
        have hb : (s' == zero64) = true := by simpa using hz
        clear hz
        go_wp2_with (first
          | (refine wpList_loadA (off := o + k * 64) (I3.out.heap HGC.out hgS) Try.underlying80 rfl sizeBlock hob rfl rfl rfl ?_; rw [HE.out])
          | (refine wpList_val rfl (exec_eql_block (b := zero64) rfl rfl rfl h64' rfl) ?_; rw [hb]))
        exact ⟨⟨k + 1, sync, by omega, by omega, by go_num, rfl, Dc, S1, I1.out, I2.out, I3.out, HI5.out, by omega⟩, by simp [intOf]; omega⟩
      · have hb : (s' == zero64) = false := by simpa using hz
        have HI5 : Hid (D.clearsGo fr fn (f.drop fn) (decide (0 < D.loose.length)) = if (Dc.write (fr + k) zero64).1 = 0 then (Dc.write (fr + k) zero64).2.clearsGo fr (k + 1) (f.drop (k + 1)) true else Dc.write (fr + k) zero64) := Lib.hid (by rw [HI4.out, if_neg hz])
        clear hz
        go_wp2_with (first
          | (refine wpList_loadA (off := o + k * 64) (I3.out.heap HGC.out hgS) Try.underlying80 rfl sizeBlock hob rfl rfl rfl ?_; rw [HE.out])
          | (refine wpList_val rfl (exec_eql_block (b := zero64) rfl rfl rfl h64' rfl) ?_; rw [hb]))
        have MK : Hid (∀ w', Upd NoS wr w' → w'.cell? ⟨p, 0, none⟩ = some (.pointer (some ⟨d, 0, none⟩)) ∧ w'.cell? ⟨p, 1, none⟩ = some (.int .i64 L.n) ∧ w'.heap[p]? = some (.cells (walC d L (.slice va L.said.length vc)) 73 (0, 0))) :=
          Lib.hid fun w' hu => ⟨cell_at (hu.heap HPR.out id) 0, cell_at (hu.heap HPR.out id) 1, hu.heap HPR.out id⟩
        refine wp_region_canon (fun w' => Upd NoS wr w') 13 2 [9] [0, 1, 2, 3, 4, 5, 6, 7, 8, 10, 12, 9, 11] rfl (by kernel_rfl) (by decide) (by kernel_rfl) (by kernel_rfl) (by kernel_rfl) (by kernel_rfl) (by kernel_rfl) ((Upd.refl _ _).drew) ?_
        simp only [List.take_succ_cons, List.take_zero, List.drop_succ_cons, List.drop_zero, pick, List.getElem?_cons_succ, List.getElem?_cons_zero, Nat.reduceBEq, List.contains_cons, List.contains_nil, Bool.or_self, Bool.or_false, Bool.or_true, Bool.true_or, Bool.false_or]
        iterate 8 (refine wpD_quiet ?_ (fun w' hS => ?_) ?_; rotate_left; (· obtain ⟨f0, f1, _⟩ := MK.out w' hS; go_simp; (try with_reducible rfl)); (try simp only [Act.put, List.setIfInBounds_toArray, List.set_cons_succ, List.set_cons_zero]))
        refine wpD_quiet (.agg (bookC d L.n L.turn)) (fun w' hS => (exec_loadA (off := 0) (MK.out w' hS).2.2 Try.underlying71 rfl sizeBook (show 0 + 3 ≤ 6 by decide) rfl rfl).trans (by rw [walC_book])) ?_
        simp only [Act.put, List.setIfInBounds_toArray, List.set_cons_succ, List.set_cons_zero]
        iterate 2 (refine wpD_quiet ?_ (fun w' hS => ?_) ?_; rotate_left; (· obtain ⟨f0, f1, _⟩ := MK.out w' hS; go_simp; (try with_reducible rfl)); (try simp only [Act.put, List.setIfInBounds_toArray, List.set_cons_succ, List.set_cons_zero]))
        refine wpD_loud (fun K hK => ?_)
        go_wp2_with fail
        refine (walFrom _ d L.n L.turn (by omega) k2 k5 k6).mono ?_
        rintro e7 w7 ⟨rfl, hu7⟩
        have HU7 := Lib.hid ((Upd.refl NoS wr).drew.tr hu7)
        clear hu7
        go_wp2_with fail
        refine hK _ _ HU7.out ?_
        clear hK
        rw [← HFR.out]
        iterate 1 (refine wpD_quiet ?_ (fun w' hS => ?_) ?_; rotate_left; (· obtain ⟨f0, f1, _⟩ := MK.out w' hS; go_simp; (try with_reducible rfl)); (try simp only [Act.put, List.setIfInBounds_toArray, List.set_cons_succ, List.set_cons_zero]))
        refine wpD_nil ?_
        have hwa : IntKind.i64.wrap (fr + k) = fr + k := by rw [IntKind.wrap_i64]; omega
        try rw [hwa]
        clear hwa
        go_wp2_with (go_at_call 62; refine halted ?_)
        unfold Halted
        rw [zero64_lit]
        refine (dskWrite w7 d Dc S1 (I1.out.updNo HU7.out) (fr + k) zero64 rfl (by omega)).mono ?_
        rintro e8 w8 ⟨rfl, hto⟩
        obtain ⟨S2, j1, j2, j3, j4⟩ := hto
        have hu18 : Upd S w1 w8 := (I3.out.trNo HU7.out).trans j3 (fun j hj e => (I2.out j e).elim id (fun h => by omega))
        have hS2 : ∀ j, S2 j → S j ∨ w1.heap.size ≤ j := fun j hj => (j2 j hj).elim (I2.out j) (fun h => .inr (by have := h.1; have := hu18.size; have := I3.out.size; have := HU7.out.size; omega))
        have hlw := Dk.write_loose Dc (fr + k) zero64
        obtain ⟨R, hR⟩ : ∃ R, R = Dc.write (fr + k) zero64 := ⟨_, rfl⟩
        rw [← hR] at j1 hlw HI5 ⊢
        have J1 := Lib.hid j1
        have HS2 := Lib.hid hS2
        have HU18 := Lib.hid hu18
        clear j1 j2 j3 j4 hR hS2 hu18
        by_cases e0 : R.1 = 0
        · have HI6 : Hid (D.clearsGo fr fn (f.drop fn) (decide (0 < D.loose.length)) = R.2.clearsGo fr (k + 1) (f.drop (k + 1)) true) := Lib.hid (by rw [HI5.out, if_pos e0])
          rw [e0]
          clear e0 HI5
          go_wp2
          refine NoPanic.normal ?_
          go_wp2
          exact ⟨⟨k + 1, true, by omega, by omega, by go_num, rfl, R.2, S2, J1.out, HS2.out, HU18.out, HI6.out, by omega⟩, by simp [intOf]; omega⟩
        · have HI6 : Hid (D.clears L f = R) := Lib.hid (by rw [HCL.out, HI5.out, if_neg e0])
          have hne : (R.1 == 0) = false := by simpa using e0
          clear e0 HI5
          go_wp2
          refine NoPanic.normal ?_
          go_wp2
          go_ret
          rw [HI6.out]
          exact ⟨rfl, S2, J1.out, fun j hj => (HS2.out j hj).imp id (fun h => by have := HU1.out.size; omega), HU1.out.of_no.tr HU18.out⟩
    · obtain hke : (k : Int) = L.n := by omega
      have hd0 : f.drop k = [] := List.drop_of_length_le (by omega)
      have HI5 : Hid (D.clears L f = if sync then Dc.sync else (0, Dc)) := Lib.hid (by rw [HCL.out, I4.out, hd0]; rfl)
      clear hd0
      cases sync with
      | false =>
        go_wp2
        go_ret
        rw [HI5.out]
        exact ⟨rfl, S1, I1.out, fun j hj => (I2.out j hj).imp id (fun h => by have := HU1.out.size; omega), HU1.out.of_no.tr I3.out⟩
      | true =>
        go_wp2_with (go_at_call 63; refine halted ?_)
        unfold Halted
        refine (dskSync wr d Dc S1 I1.out (by omega)).mono ?_
        rintro e8 w8 ⟨rfl, hto⟩
        obtain ⟨S2, j1, j2, j3, j4⟩ := hto
        have hu18 : Upd S w1 w8 := I3.out.trans j3 (fun j hj e => (I2.out j e).elim id (fun h => by omega))
        have hS2 : ∀ j, S2 j → S j ∨ w1.heap.size ≤ j := fun j hj => (j2 j hj).elim (I2.out j) (fun h => .inr (by have := h.1; have := I3.out.size; omega))
        have J1 := Lib.hid j1
        have HS2 := Lib.hid hS2
        have HU18 := Lib.hid hu18
        clear j1 j2 j3 j4 hS2 hu18
        go_wp2
        go_ret
        rw [HI5.out]
        exact ⟨rfl, S2, J1.out, fun j hj => (HS2.out j hj).imp id (fun h => by have := HU1.out.size; omega), HU1.out.of_no.tr HU18.out⟩
end Go.Proofs.Ytomgdfoahfhijaa
namespace Go.Proofs.Ytomgdfoahfhijaa
open Go.RowKit

def Dk.fieldOf (fr : Int) : Nat → Nat → Dk → List (List UInt8) → Int × List (List UInt8) × Dk
  | 0, _, D, acc => (0, acc, D)
  | n + 1, i, D, acc => if (D.read (fr + i)).2.1 = 0 then Dk.fieldOf fr n (i + 1) (D.read (fr + i)).2.2 (acc ++ [(D.read (fr + i)).1]) else ((D.read (fr + i)).2.1, [], (D.read (fr + i)).2.2)
def saidGo (turn : Int) (f : List (List UInt8)) : Nat → List (List UInt8) → Nat → List (List UInt8) × Nat
  | 0, said, fin => (said, fin)
  | n + 1, said, fin => match standsOf turn f fin said.length with
    | none => (said, fin)
    | some l => saidGo turn f n (said ++ [l]) (fin + (sectorsOf l.length).toNat)
def foundL (n turn : Int) (f : List (List UInt8)) : Wl := ⟨n, turn, (saidGo turn f (f.length + 1) [] 0).1, (saidGo turn f (f.length + 1) [] 0).2, false⟩
def Dk.openF (D : Dk) (n turn : Int) (f : List (List UInt8)) : Int × Dk × Option Wl :=
  if (foundL n turn f).said = [] then (140, D, none)
  else if (D.clears (foundL n turn f) f).1 = 0 then (0, (D.clears (foundL n turn f) f).2, some (foundL n turn f))
  else ((D.clears (foundL n turn f) f).1, (D.clears (foundL n turn f) f).2, none)
def Dk.openR (D : Dk) (b : Int × Int) : Int × Dk × Option Wl :=
  if (Dk.fieldOf (fromOf b.1 b.2) b.1.toNat 0 D []).1 = 0 then (Dk.fieldOf (fromOf b.1 b.2) b.1.toNat 0 D []).2.2.openF b.1 b.2 (Dk.fieldOf (fromOf b.1 b.2) b.1.toNat 0 D []).2.1
  else ((Dk.fieldOf (fromOf b.1 b.2) b.1.toNat 0 D []).1, (Dk.fieldOf (fromOf b.1 b.2) b.1.toNat 0 D []).2.2, none)
def Dk.opens (D : Dk) : Int × Dk × Option Wl :=
  match D.counts.2.1 with
  | none => (D.counts.1, D.counts.2.2, none)
  | some b => D.counts.2.2.openR b

/-! ### what counts has found -/
def BookOk (b : Int × Int) : Prop := 4 ≤ b.1 ∧ b.1 ≤ 1000 ∧ 0 ≤ b.2 ∧ b.2 < 4294967296
theorem titleAt_ok {size k : Int} {s : List UInt8} {best : Option (Int × Int)} (hs : s.length = 64) (hb : ∀ b, best = some b → BookOk b) {b : Int × Int} (h : titleAt size k s best = some b) : BookOk b := by
  unfold titleAt at h
  split at h
  · rename_i hc
    cases h
    simp only [Bool.and_eq_true] at hc
    obtain ⟨⟨⟨h1, _⟩, _⟩, _⟩ := hc
    unfold mayB at h1
    simp only [Bool.and_eq_true, decide_eq_true_eq] at h1
    obtain ⟨h2, h3⟩ := titleT_bounds hs
    exact ⟨h1.1.1, h1.1.2, h2, h3⟩
  · exact hb b h
theorem Dk.read_ok {D : Dk} (h : D.Ok) (k : Int) : (D.read k).2.2.Ok := by
  have h1 := Dk.ask_ok h k false
  unfold Dk.read
  split
  · exact ⟨h1.size1, h1.size2, h1.firm, h1.loose, h1.arms, h1.fails, wrap_bounds _⟩
  · exact h1
theorem count1_ok {D : Dk} (h : D.Ok) (k : Int) (best : Option (Int × Int)) (hb : ∀ b, best = some b → BookOk b) : (∀ b, (D.count1 k best).2.1 = some b → BookOk b ∧ (D.count1 k best).1 = 0) ∧ (D.count1 k best).2.2.Ok := by
  unfold Dk.count1
  split
  · exact ⟨fun b hb' => ⟨titleAt_ok (length_read h k) hb hb', rfl⟩, Dk.read_ok h k⟩
  · exact ⟨fun b hb' => (by cases hb'), Dk.read_ok h k⟩
theorem counts_ok {D : Dk} (h : D.Ok) : (∀ b, D.counts.2.1 = some b → BookOk b ∧ D.counts.1 = 0) ∧ (D.counts.2.1 = none → D.counts.1 ≠ 0) := by
  obtain ⟨h1, h2⟩ := count1_ok h 0 none (fun b hb => by cases hb)
  unfold Dk.counts
  by_cases e0 : (D.count1 0 none).1 = 0
  · rw [if_pos e0]
    obtain ⟨h3, h4⟩ := count1_ok h2 1 (D.count1 0 none).2.1 (fun b hb => (h1 b hb).1)
    by_cases e1 : ((D.count1 0 none).2.2.count1 1 (D.count1 0 none).2.1).1 = 0
    · rw [if_pos e1]
      cases hc : ((D.count1 0 none).2.2.count1 1 (D.count1 0 none).2.1).2.1 with
      | none => exact ⟨fun b hb => (by cases hb), fun _ => (show (140 : Int) ≠ 0 by decide)⟩
      | some b => exact ⟨fun b' hb => (by cases hb; exact ⟨(h3 b hc).1, rfl⟩), fun hb => (by cases hb)⟩
    · rw [if_neg e1]
      exact ⟨fun b hb => absurd (h3 b hb).2 e1, fun _ => e1⟩
  · rw [if_neg e0]
    exact ⟨fun b hb => absurd (h1 b hb).2 e0, fun _ => e0⟩
theorem counts_loose (D : Dk) : D.counts.2.2.loose = D.loose := by
  have h1 : ∀ (D : Dk) k b, (D.count1 k b).2.2.loose = D.loose := fun D k b => by
    unfold Dk.count1
    split <;> exact Dk.read_loose D k
  unfold Dk.counts
  split
  · split
    · split <;> exact (h1 _ _ _).trans (h1 _ _ _)
    · exact (h1 _ _ _).trans (h1 _ _ _)
  · exact h1 _ _ _
/-! ### what stands -/
theorem length_allOf {f : List (List UInt8)} (hf : ∀ s ∈ f, s.length = 64) (at_ many : Nat) (h : at_ + many ≤ f.length) : (allOf f at_ many).length = 48 * many := by
  unfold allOf
  have h2 : ∀ l : List (List UInt8), (∀ s ∈ l, s.length = 64) → (l.flatMap (fun s => s.drop 16)).length = 48 * l.length := by
    intro l
    induction l with
    | nil => intro _; rfl
    | cons s l ih =>
      intro hl
      rw [List.flatMap_cons, List.length_append, ih (fun x hx => hl x (List.mem_cons_of_mem _ hx)), List.length_drop, hl s (List.mem_cons_self ..), List.length_cons]
      omega
  rw [h2 _ (fun s hs => hf s (List.mem_of_mem_drop (List.mem_of_mem_take hs))), List.length_take, List.length_drop]
  omega
theorem stands_some {turn : Int} {f : List (List UInt8)} (hf : ∀ s ∈ f, s.length = 64) {at_ number : Nat} {l : List UInt8} (h : standsOf turn f at_ number = some l) : at_ + (sectorsOf l.length).toNat ≤ f.length ∧ 1 ≤ sectorsOf l.length ∧ l.length ≤ 40000 := by
  unfold standsOf at h
  split at h
  · cases h
  · rename_i s hs
    split at h
    · cases h
    · rename_i hn
      split at h
      · rename_i hm
        cases h
        have hsz : ∃ mk : Nat, sectorsOf (sizeAt s) = (mk : Int) ∧ 1 ≤ mk ∧ sizeAt s ≤ 48 * mk ∧ sizeAt s ≤ 40000 := by
          unfold sectorsOf at hn ⊢
          split at hn
          · simp at hn
          · rename_i h1
            rw [if_neg h1]
            split at hn
            · rename_i h2
              rw [if_pos h2]
              exact ⟨1, rfl, by omega, by omega, by omega⟩
            · rename_i h2
              rw [if_neg h2]
              exact ⟨((sizeAt s + 47) / 48), by omega, by omega, by omega, by omega⟩
        obtain ⟨mk, h1, h2, h3, h4⟩ := hsz
        rw [h1] at hn ⊢
        have hlen : ((allOf f at_ ((mk : Int)).toNat).take (sizeAt s)).length = sizeAt s := by
          rw [List.length_take, length_allOf hf at_ _ (by omega)]
          omega
        rw [hlen, h1]
        omega
      · cases h
theorem saidGo_ok {turn : Int} {f : List (List UInt8)} (hf : ∀ s ∈ f, s.length = 64) : ∀ (n : Nat) (said : List (List UInt8)) (fin : Nat), said.length ≤ fin → fin ≤ f.length → (∀ l ∈ said, l.length ≤ 40000) →
    (saidGo turn f n said fin).1.length ≤ (saidGo turn f n said fin).2 ∧ (saidGo turn f n said fin).2 ≤ f.length ∧ ∀ l ∈ (saidGo turn f n said fin).1, l.length ≤ 40000
  | 0, said, fin, h1, h2, h3 => ⟨h1, h2, h3⟩
  | n + 1, said, fin, h1, h2, h3 => by
    unfold saidGo
    split
    · exact ⟨h1, h2, h3⟩
    · rename_i l hl
      obtain ⟨h4, h5, h6⟩ := stands_some hf hl
      refine saidGo_ok hf n _ _ (by rw [List.length_append, List.length_singleton]; omega) (by omega) (fun x hx => ?_)
      rcases List.mem_append.1 hx with hx | hx
      · exact h3 x hx
      · rw [List.mem_singleton.1 hx]; exact h6
/-- A fuel as long as what is left is enough. -/
theorem saidGo_fuel {turn : Int} {f : List (List UInt8)} (hf : ∀ s ∈ f, s.length = 64) : ∀ (n m : Nat) (said : List (List UInt8)) (fin : Nat), fin ≤ f.length → f.length < fin + n → f.length < fin + m → saidGo turn f n said fin = saidGo turn f m said fin
  | 0, m, said, fin, h1, h2, h3 => by omega
  | n + 1, 0, said, fin, h1, h2, h3 => by omega
  | n + 1, m + 1, said, fin, h1, h2, h3 => by
    unfold saidGo
    split
    · rfl
    · rename_i l hl
      obtain ⟨h4, h5, h6⟩ := stands_some hf hl
      exact saidGo_fuel hf n m _ _ (by omega) (by omega) (by omega)
theorem saidGo_none {turn : Int} {f : List (List UInt8)} {n : Nat} {said : List (List UInt8)} {fin : Nat} (h : standsOf turn f fin said.length = none) : saidGo turn f n said fin = (said, fin) := by
  cases n with
  | zero => rfl
  | succ n => unfold saidGo; rw [h]
theorem saidGo_step {turn : Int} {f : List (List UInt8)} (hf : ∀ s ∈ f, s.length = 64) {said : List (List UInt8)} {fin : Nat} {l : List UInt8} (h1 : fin ≤ f.length) (h : standsOf turn f fin said.length = some l) :
    saidGo turn f (f.length + 1) said fin = saidGo turn f (f.length + 1) (said ++ [l]) (fin + (sectorsOf l.length).toNat) := by
  obtain ⟨h4, h5, h6⟩ := stands_some hf h
  conv => lhs; unfold saidGo
  rw [h]
  exact saidGo_fuel hf _ _ _ _ h4 (by omega) (by omega)
theorem fieldOf_ok (fr : Int) : ∀ (n i : Nat) (D : Dk) (acc : List (List UInt8)), D.Ok → (∀ s ∈ acc, s.length = 64) → (Dk.fieldOf fr n i D acc).1 = 0 → (∀ s ∈ (Dk.fieldOf fr n i D acc).2.1, s.length = 64) ∧ (Dk.fieldOf fr n i D acc).2.1.length = acc.length + n
  | 0, i, D, acc, h, ha, _ => ⟨ha, rfl⟩
  | n + 1, i, D, acc, h, ha, h0 => by
    unfold Dk.fieldOf at h0 ⊢
    split
    · rename_i e0
      rw [if_pos e0] at h0
      obtain ⟨h1, h2⟩ := fieldOf_ok fr n (i + 1) _ _ (Dk.read_ok h _) (fun s hs => by
        rcases List.mem_append.1 hs with hs | hs
        · exact ha s hs
        · rw [List.mem_singleton.1 hs]; exact length_read h _) h0
      exact ⟨h1, by rw [h2, List.length_append, List.length_singleton]; omega⟩
    · rename_i e0
      rw [if_neg e0] at h0
      exact absurd h0 e0
theorem found_ok {n turn : Int} {f : List (List UInt8)} (hb : BookOk (n, turn)) (hf : ∀ s ∈ f, s.length = 64) (hn : (f.length : Int) = n) (hs : (foundL n turn f).said ≠ []) : (foundL n turn f).Ok := by
  obtain ⟨h1, h2, h3⟩ := saidGo_ok (turn := turn) hf (f.length + 1) [] 0 (Nat.le_refl 0) (Nat.zero_le _) (fun l hl => by cases hl)
  have h4 : 1 ≤ (foundL n turn f).said.length := by
    cases hq : (foundL n turn f).said with
    | nil => exact absurd hq hs
    | cons a l => simp
  exact ⟨hb.1, hb.2.1, hb.2.2.1, hb.2.2.2, h4, by show (((saidGo turn f (f.length + 1) [] 0).1.length : Nat) : Int) ≤ (((saidGo turn f (f.length + 1) [] 0).2 : Nat) : Int); omega, by show (((saidGo turn f (f.length + 1) [] 0).2 : Nat) : Int) ≤ n; omega, h3⟩
end Go.Proofs.Ytomgdfoahfhijaa
