/- wal: Open. -/
import Derived.Test.YtomgdfoahfhijaaWbe
set_option linter.unusedVariables false
set_option linter.unusedSimpArgs false
namespace Go.Proofs.Ytomgdfoahfhijaa
open Go.RowKit

theorem Rd.block {w : World} {e size n k : Nat} {v : Value} {xs : List Value} (h : Rd w e size v n xs) (hk : v.ownBlock = some k) : ∃ cur fr, w.heap[k]? = some (.cells cur e fr) := by
  obtain ⟨_, ⟨rfl, _⟩ | ⟨g, o, c, cur, fr, rfl, _, _, hh, _⟩⟩ := h
  · cases hk
  · cases hk; exact ⟨cur, fr, hh⟩
theorem noGoto_ret {Q : Exit → Act → World → Prop} {a : Act} {w : World} (h : Q .ret a w) : Exit.noGoto Q .ret a w := h
theorem walOpenNil (w : World) : Calls Try.prog 22 #[.pointer none] w fun e w' => e = .returned (.tuple #[.pointer none, .int .i64 1]) ∧ w' = w := by
  go_enter Try.func22, Try.ntmps22
  go_wp2
  refine wp_scope_straight ?_
  go_wp2
  refine noGoto_ret ?_
  go_ret2
  exact ⟨rfl, rfl⟩
theorem builtWal0 (d : Nat) (n turn : Int) : Try.prog.built 73 [(0, .agg (bookC d n turn))] = some #[.pointer (some ⟨d, 0, none⟩), .int .i64 n, .int .u32 turn, .slice none 0 0, .int .i64 0, .bool false] := by
  rw [built_zero placesWal zeroWal]
  refine (fill_one (off := 0) (size := 3) rfl rfl (by decide)).trans ?_
  rw [Instr.fill.eq_1]
  rfl
theorem infoBk : (Try.prog.info? 80).map (fun i => (i.zero, i.size, i.bytes)) = some (some (blockV zero64), 64, 64) := by kernel_rfl
def OpenPost (w w' : World) (d : Nat) (S : Nat → Prop) (e : Ending) (r : Int × Dk × Option Wl) : Prop :=
  match r.2.2 with
  | none => e = .returned (.tuple #[.pointer none, .int .i64 r.1]) ∧ DskIn w w' d r.2.1 S
  | some L => ∃ p, w.heap.size ≤ p ∧ e = .returned (.tuple #[.pointer (some ⟨p, 0, none⟩), .int .i64 0]) ∧ WalTo w w' p d r.2.1 L S
set_option maxRecDepth 100000 in
set_option maxHeartbeats 4000000 in
theorem walOpen (w : World) (d : Nat) (D : Dk) (S : Nat → Prop) (h : IsDisk w d D S) (hlo : D.loose.length ≤ 700000000) :
    Calls Try.prog 22 #[.pointer (some ⟨d, 0, none⟩)] w fun e w' => OpenPost w w' d S e D.opens := by
  have HI := Lib.hid h
  obtain ⟨hc1, hc2⟩ := counts_ok h.ok
  have hcl := counts_loose D
  have HOP : Hid (∀ x, D.counts.2.1 = x → D.opens = match x with | none => (D.counts.1, D.counts.2.2, none) | some b => D.counts.2.2.openR b) := Lib.hid fun x hx => by subst hx; unfold Dk.opens; rfl
  clear h
  go_enter Try.func22, Try.ntmps22
  go_wp2
  refine wp_scope_straight ?_
  go_wp2_with (go_at_call 45; refine halted ?_)
  unfold Halted
  refine (walCounts w d D S HI.out (by omega)).mono ?_
  rintro e1 w1 ⟨rfl, hto⟩
  obtain ⟨S1, j1, j2, j3⟩ := hto
  obtain ⟨code, hcode⟩ : ∃ code, code = D.counts.1 := ⟨_, rfl⟩
  obtain ⟨D1, hD1⟩ : ∃ D1, D1 = D.counts.2.2 := ⟨_, rfl⟩
  rw [← hcode] at HOP hc1 hc2 ⊢
  rw [← hD1] at HOP j1 hcl
  clear hcode hD1
  have J1 := Lib.hid j1
  have J2 := Lib.hid j2
  have J3 := Lib.hid j3
  clear j1 j2 j3
  cases hb : D.counts.2.1 with
  | none =>
    have hne : (code == 0) = false := by simpa using hc2 hb
    have HO := Lib.hid (HOP.out none hb)
    clear hc1 hc2 HOP hb
    simp only [bestC]
    go_wp2
    go_ret2
    rw [HO.out]
    refine ⟨rfl, S1, J1.out.updNo ((Upd.refl NoS w1).alloc _), J2.out, J3.out.alloc _⟩
  | some b =>
    obtain ⟨hbk, rfl⟩ := hc1 b hb
    have HO := Lib.hid (HOP.out (some b) hb)
    clear hc1 hc2 HOP hb
    obtain ⟨n0, tt⟩ := b
    obtain ⟨b1, b2, b3, b4⟩ := hbk
    simp only at b1 b2 b3 b4
    obtain ⟨n, rfl⟩ : ∃ n : Nat, n0 = n := ⟨n0.toNat, by omega⟩
    simp only [bestC, bookC]
    obtain ⟨iK, hiK, hzK, hsK, hbK⟩ := info_parts infoBk
    have b5 : (0 : Int) ≤ n := by omega
    go_wp2_with (at_make; refine wpList_make_full _ rfl _ _ 83 rfl _ 80 iK (blockV zero64) 64 Try.underlying83 hiK hzK hsK _ _ _ _ n rfl rfl rfl rfl (by rw [hbK]; omega) (by unfold maxLen; omega) (Nat.le_refl _) ?_; intro W0 hown0 hgrow0; refine halted ?_)
    unfold Halted
    obtain ⟨m, hm⟩ : ∃ m, m = w1.heap.size := ⟨_, rfl⟩
    obtain ⟨Wb, hWb⟩ : ∃ Wb, Wb = w1.alloc (.cells #[.pointer (some ⟨d, 0, none⟩), .int .i64 n, .int .u32 tt] 71) := ⟨_, rfl⟩
    have hz : Wb.heap.size = m + 1 := by rw [hWb, hm]; simp
    rw [← hWb] at hgrow0 hown0
    have hu1b : Upd NoS w1 Wb := by rw [hWb]; exact (Upd.refl NoS w1).alloc _
    have hub0 : Upd NoS Wb W0 := (Upd.refl NoS Wb).grown hgrow0 (fun k hk => by cases hk)
    have hgb : Wb.heap[m]? = some (.cells (bookC d n tt) 71 (0, 0)) := by rw [hWb, hm]; exact heap_new _ _
    have hown1 := hown0
    simp only [World.size_alloc, ← hm] at hown1 ⊢
    rw [hz] at hown1
    obtain ⟨cur0, hg0, hcs0⟩ : ∃ cur, W0.heap[m + 1]? = some (.cells cur 80 (0, 0)) ∧ cur.size = n * 64 := by
      obtain ⟨_, ⟨h1, _⟩ | ⟨g', cap, cur, hv, _, hh, _, _, hs, _⟩⟩ := hown1
      · cases h1
      · cases hv; exact ⟨cur, hh, hs⟩
    clear hWb hown0 hown1 hgrow0 hiK hzK hsK hbK
    have HB0 := Lib.hid (hub0.heap hgb id)
    have HU10 := Lib.hid (hu1b.tr hub0)
    have hz0 : m + 2 ≤ W0.heap.size := by have := lt_of_heap hg0; omega
    have HM := Lib.hid hm
    have hS1m : ∀ j, S1 j → j < m := fun j hj => by have := J1.out.lt j hj; omega
    have I0 := Lib.hid (J1.out.updNo HU10.out)
    clear hm hub0 hu1b hgb hz
    obtain ⟨hf2, hf3⟩ := fromOf_le (n := (n : Int)) (turn := tt) b5 b2
    obtain ⟨fr, hfr⟩ : ∃ fr, fr = fromOf n tt := ⟨_, rfl⟩
    have HFR := Lib.hid hfr
    rw [← hfr] at hf2 hf3
    clear hfr
    go_wp2
    go_loopw [27] (fun kv wr => ∃ (k : Nat) (acc : List (List UInt8)) (Dc : Dk) (S2 : Nat → Prop) (cur : Array Value), k ≤ n ∧ kv = .int .i64 k ∧ Dk.fieldOf fr n 0 D1 [] = Dk.fieldOf fr (n - k) k Dc acc ∧ acc.length = k ∧ (∀ s ∈ acc, s.length = 64) ∧
        wr.heap[m + 1]? = some (.cells cur 80 (0, 0)) ∧ cur.size = n * 64 ∧ cur.toList.take (k * 64) = acc.flatMap bvs ∧ IsDisk wr d Dc S2 ∧ (∀ j, S2 j → S1 j ∨ W0.heap.size ≤ j) ∧ Upd (fun j => S1 j ∨ j = m + 1) W0 wr ∧ Dc.loose = D.loose) (fun kv _ => n - (intOf kv).toNat)
    case atStart => exact ⟨0, [], D1, S1, cur0, Nat.zero_le _, rfl, rfl, rfl, fun s hs => (by cases hs), hg0, hcs0, by simp, I0.out, fun j hj => .inl hj, Upd.refl _ _, hcl⟩
    case round =>
      obtain ⟨k, acc, Dc, S2, cur, hk, rfl, hfo, hal, ha64, hg, hcs, hct, i1, i2, i3, i4⟩ := hrel
      have HFO := Lib.hid hfo
      have HG := Lib.hid hg
      have HCT := Lib.hid hct
      have HAL := Lib.hid hal
      have HA64 := Lib.hid ha64
      have I1 := Lib.hid i1
      have I2 := Lib.hid i2
      have I3 := Lib.hid i3
      have HB := Lib.hid (i3.heap HB0.out (fun e => e.elim (fun e => by have := hS1m _ e; omega) (fun e => by omega)))
      have hzw := i3.size
      clear hfo hg hct hal ha64 i1 i2 i3 hg0 hcs0
      by_cases hlt : k < n
      · have hlt' : (k : Int) < n := by omega
        have HST : Hid (Dk.fieldOf fr n 0 D1 [] = if (Dc.read (fr + k)).2.1 = 0 then Dk.fieldOf fr (n - (k + 1)) (k + 1) (Dc.read (fr + k)).2.2 (acc ++ [(Dc.read (fr + k)).1]) else ((Dc.read (fr + k)).2.1, [], (Dc.read (fr + k)).2.2)) :=
          Lib.hid (by rw [HFO.out, show n - k = (n - (k + 1)) + 1 by omega]; rfl)
        go_wp2_with (first
          | (refine wpList_load0 HB.out Try.underlying71 rfl sizeBook rfl rfl (x := .tmp 4) rfl rfl ?_)
          | (go_at_call 47; refine (walFrom _ d n tt b5 b2 b3 b4).mono ?_; rintro e2 w2 ⟨rfl, hu2⟩; refine halted ?_))
        unfold Halted
        rw [← HFR.out]
        go_wp2_with (go_at_call 46; refine halted ?_)
        unfold Halted
        refine (dskRead w2 d Dc S2 (I1.out.updNo hu2) (fr + k) (by rw [i4]; omega)).mono ?_
        rintro e3 w3 ⟨rfl, hto⟩
        obtain ⟨S3, j1, j2, j3, j4⟩ := hto
        have h64 := length_read I1.out.ok (fr + k)
        have hlo3 := (Dk.read_loose Dc (fr + k)).trans i4
        have hS3 : ∀ j, S3 j → S1 j ∨ W0.heap.size ≤ j := fun j hj => (j2 j hj).elim (I2.out j) (fun h => .inr (by have := h.1; have := hu2.size; omega))
        have hu03 : Upd (fun j => S1 j ∨ j = m + 1) W0 w3 := (I3.out.trNo hu2).trans j3 (fun j hj e => (I2.out j e).elim .inl (fun h => by omega))
        have hm1 : ¬ S2 (m + 1) := fun e => (I2.out _ e).elim (fun h => by have := hS1m _ h; omega) (fun h => by omega)
        have hg3 := j3.heap (hu2.heap HG.out id) hm1
        obtain ⟨blk, hblk⟩ : ∃ s, s = (Dc.read (fr + k)).1 := ⟨_, rfl⟩
        obtain ⟨er, her⟩ : ∃ er, er = (Dc.read (fr + k)).2.1 := ⟨_, rfl⟩
        obtain ⟨D2, hD2⟩ : ∃ D2, D2 = (Dc.read (fr + k)).2.2 := ⟨_, rfl⟩
        rw [← hblk, ← her, ← hD2] at HST
        rw [← hD2] at j1 hlo3
        rw [← hblk] at h64
        rw [← hblk, ← her]
        have J13 := Lib.hid j1
        have HS3 := Lib.hid hS3
        have HU03 := Lib.hid hu03
        have HG3 := Lib.hid hg3
        clear hblk her hD2 j1 j2 j3 j4 hS3 hu03 hg3 hu2
        have hcb : k * 64 + 64 ≤ cur.size := by omega
        go_wp2_with (refine wpList_storeP (off := k * 64) HG3.out sizeBlock (by simp [h64]) hcb (bvs_one blk) rfl (x := .tmp 41) (y := .tmp 39) rfl rfl rfl ?_; intro w4 hg4 hu4 hs4; refine halted ?_)
        unfold Halted
        have hm3 : ∀ j, S3 j → ¬ OneS (m + 1) j := fun j hj e => by
          obtain rfl : j = m + 1 := e
          exact (HS3.out _ hj).elim (fun h => by have := hS1m _ h; omega) (fun h => by omega)
        have HI4 := Lib.hid (J13.out.upd hu4 hm3)
        have HU04 := Lib.hid (HU03.out.tr (hu4.mono (fun _ _ e => .inr e)))
        have HG4 := Lib.hid hg4
        clear hg4 hu4 hs4 hm3
        by_cases e0 : er = 0
        · subst e0
          have HST2 : Hid (Dk.fieldOf fr n 0 D1 [] = Dk.fieldOf fr (n - (k + 1)) (k + 1) D2 (acc ++ [blk])) := Lib.hid (by rw [HST.out, if_pos rfl])
          clear HST
          go_wp2
          refine ⟨⟨k + 1, acc ++ [blk], D2, S3, _, by omega, by go_num, HST2.out, by rw [List.length_append, HAL.out]; rfl, fun s hs => ?_, HG4.out, ?_, ?_, HI4.out, HS3.out, HU04.out, hlo3⟩, by simp [intOf]; omega⟩
          · rcases List.mem_append.1 hs with hs | hs
            · exact HA64.out s hs
            · rw [List.mem_singleton.1 hs]; exact h64
          · simp [h64]; omega
          · rw [List.toList_toArray, HCT.out, show (k + 1) * 64 = (acc.flatMap bvs ++ (bvs blk).toArray.toList).length by rw [List.length_append, length_flat HA64.out, HAL.out]; simp [h64]; omega, show (bvs blk).toArray.toList = bvs blk from rfl, show List.map bv blk = bvs blk from rfl, List.take_left, List.flatMap_append]
            simp
        · have HST2 : Hid (D.opens = (er, D2, none)) := Lib.hid (by rw [HO.out]; unfold Dk.openR; simp only; rw [Int.toNat_natCast, ← HFR.out, HST.out, if_neg e0]; simp only; rw [if_neg e0])
          have hne : (er == 0) = false := by simpa using e0
          clear HST
          go_wp2
          refine noGoto_ret ?_
          go_ret2
          rw [HST2.out]
          exact ⟨rfl, S3, HI4.out, fun j hj => (HS3.out j hj).elim (J2.out j) (fun h => .inr (by have := HU10.out.size; have := J3.out.size; omega)), (J3.out.trNo HU10.out).trans HU04.out (fun j hj e => e.elim (fun e => (J2.out j e).elim id (fun h => by omega)) (fun e => by have := J3.out.size; have := HM.out; omega))⟩
      · obtain rfl : k = n := by omega
        have HFN : Hid (Dk.fieldOf fr k 0 D1 [] = (0, acc, Dc)) := Lib.hid (by rw [HFO.out, Nat.sub_self]; rfl)
        have hb3 := HB.out
        go_wp2_with (first
          | (refine wpList_load0 HB.out Try.underlying71 rfl sizeBook rfl rfl (x := .tmp 4) rfl rfl ?_)
          | (refine wpList_val rfl (exec_build rfl (builtWal0 d k tt)) ?_; refine halted ?_))
        unfold Halted
        go_wp2
        obtain rfl : acc.length = k := HAL.out
        refine wp_name ?_
        intro W5 hW5
        obtain ⟨p, hp⟩ : ∃ p, p = wr.heap.size := ⟨_, rfl⟩
        rw [← hp]
        have hu5 : Upd NoS wr W5 := by rw [hW5]; exact (Upd.refl NoS wr).alloc _
        have hgp : W5.heap[p]? = some (.cells (walC d ⟨acc.length, tt, [], 0, false⟩ (.slice none 0 0)) 73 (0, 0)) := by rw [hW5, hp]; exact heap_new _ _
        have hp5 : W5.heap.size = p + 1 := by rw [hW5, hp]; simp
        have hpm : m + 2 ≤ p := by omega
        clear hW5
        have HF5 : Hid (∀ W, Upd (fun j => j = p ∨ W5.heap.size ≤ j) W5 W → IsField W (.slice (some ⟨m + 1, 0, none⟩) acc.length acc.length) acc) := Lib.hid fun W hu =>
          ⟨⟨length_flat HA64.out, .inr ⟨m + 1, 0, acc.length, cur, (0, 0), rfl, Nat.le_refl _, by unfold maxLen; omega, hu.heap (hu5.heap HG.out id) (fun e => by rcases e with e | e <;> omega), by rw [List.drop_zero]; exact HCT.out⟩⟩, HA64.out⟩
        have HI5 := Lib.hid (I1.out.updNo hu5)
        have HUw5 : Hid (Upd S w W5) := Lib.hid (((J3.out.trNo HU10.out).trans I3.out (fun j hj e => e.elim (fun e => (J2.out j e).elim id (fun h => by omega)) (fun e => by have := J3.out.size; have := HM.out; omega))).trNo hu5)
        have HS5 : Hid (∀ j, S2 j → S j ∨ w.heap.size ≤ j) := Lib.hid fun j hj => (I2.out j hj).elim (J2.out j) (fun h => .inr (by have := HU10.out.size; have := J3.out.size; omega))
        have HSp : Hid (∀ j, S2 j → j < p) := Lib.hid fun j hj => by rw [hp]; exact I1.out.lt j hj
        have HO2 : Hid (D.opens = Dc.openF acc.length tt acc) := Lib.hid (by rw [HO.out]; unfold Dk.openR; simp only; rw [Int.toNat_natCast, ← HFR.out, HFN.out]; rfl)
        have hwp : w.heap.size ≤ p := by have := HUw5.out.size; have := J3.out.size; have := HU10.out.size; have := HM.out; omega
        clear hu5 hp HFN HFO
        refine wp_label ?_
        go_wp2
        go_loopw [9] (fun _ wr => ∃ (said : List (List UInt8)) (fin : Nat) (va : Option Addr) (vc : Nat) (vals : List Value), wr.heap[p]? = some (.cells (walC d ⟨acc.length, tt, said, fin, false⟩ (.slice va said.length vc)) 73 (0, 0)) ∧
            wr.ownsRow W5.heap.size 35 1 (.slice va said.length vc) said.length vals ∧ (∀ (i : Nat) (v : Value) (l : List UInt8), vals[i]? = some v → said[i]? = some l → Rd wr 5 1 v l.length (bvs l) ∧ ∀ j, v.ownBlock = some j → W5.heap.size ≤ j) ∧
            saidGo tt acc (acc.length + 1) [] 0 = saidGo tt acc (acc.length + 1) said fin ∧ said.length ≤ fin ∧ fin ≤ acc.length ∧ Upd (fun j => j = p) W5 wr) (fun _ wr => acc.length - (intOf ((wr.cell? ⟨p, 4, none⟩).getD undef)).toNat)
        case atStart => exact ⟨[], 0, none, 0, [], hgp, World.ownsRow_nil _ _ _ _, fun i v l hv hl => (by simp at hl), rfl, Nat.le_refl 0, Nat.zero_le _, Upd.refl _ _⟩
        case round =>
          obtain ⟨said, fin, va, vc, vals, r1, r2, r3, r4, r5, r6, r7⟩ := hrel
          have R1 := Lib.hid r1
          have R2 := Lib.hid r2
          have R3 := Lib.hid r3
          have R4 := Lib.hid r4
          have R7 := Lib.hid r7
          clear r1 r2 r3 r4 r7
          have MK : Hid (∀ w', Upd NoS wr w' → w'.cell? ⟨p, 3, none⟩ = some (.slice va said.length vc) ∧ w'.cell? ⟨p, 4, none⟩ = some (.int .i64 fin) ∧ w'.heap[p]? = some (.cells (walC d ⟨acc.length, tt, said, fin, false⟩ (.slice va said.length vc)) 73 (0, 0))) :=
            Lib.hid fun w' hu => ⟨cell_at (hu.heap R1.out id) 3, cell_at (hu.heap R1.out id) 4, hu.heap R1.out id⟩
          go_wp2
          refine wp_region_canon (fun w' => Upd NoS wr w') 19 1 [14] [0, 1, 2, 3, 4, 5, 6, 7, 8, 9, 10, 11, 12, 13, 14, 15, 16, 17, 18] rfl (by kernel_rfl) (by decide) (by kernel_rfl) (by kernel_rfl) (by kernel_rfl) (by kernel_rfl) (by kernel_rfl) ((Upd.refl _ _).drew) ?_
          simp only [List.take_succ_cons, List.take_zero, List.drop_succ_cons, List.drop_zero, pick, List.getElem?_cons_succ, List.getElem?_cons_zero, Nat.reduceBEq, List.contains_cons, List.contains_nil, Bool.or_self, Bool.or_false, Bool.or_true, Bool.true_or, Bool.false_or]
          iterate 3 (refine wpD_quiet ?_ (fun w' hS => ?_) ?_; rotate_left; (· obtain ⟨f3, f4, _⟩ := MK.out w' hS; go_simp; (try with_reducible rfl)); (try simp only [Act.put, List.setIfInBounds_toArray, List.set_cons_succ, List.set_cons_zero]))
          refine wpD_quiet (.agg (bookC d acc.length tt)) (fun w' hS => (exec_loadA (off := 0) (MK.out w' hS).2.2 Try.underlying71 rfl sizeBook (show 0 + 3 ≤ 6 by decide) rfl rfl).trans (by rw [walC_book])) ?_
          simp only [Act.put, List.setIfInBounds_toArray, List.set_cons_succ, List.set_cons_zero]
          iterate 10 (refine wpD_quiet ?_ (fun w' hS => ?_) ?_; rotate_left; (· obtain ⟨f3, f4, _⟩ := MK.out w' hS; go_simp; (try with_reducible rfl)); (try simp only [Act.put, List.setIfInBounds_toArray, List.set_cons_succ, List.set_cons_zero]))
          refine wpD_loud (fun K hK => ?_)
          go_wp2_with fail
          have hur : Upd (fun j => j = p ∨ W5.heap.size ≤ j) W5 wr.drew := (R7.out.mono (fun _ _ e => .inl e)).drew
          refine (walStands wr.drew d acc.length tt b3 b4 (m + 1) 0 acc.length acc (HF5.out _ hur) (by omega) fin said.length (by omega) (by omega)).mono ?_
          rintro e6 w6 ⟨hu6, hst⟩
          cases hsd : standsOf tt acc fin said.length with
          | none =>
            rw [hsd] at hst
            obtain rfl := hst
            have HDONE : Hid (saidGo tt acc (acc.length + 1) [] 0 = (said, fin)) := Lib.hid (by rw [R4.out, saidGo_none hsd])
            have HU6 := Lib.hid ((Upd.refl NoS wr).drew.tr hu6)
            clear hu6 hsd
            go_wp2_with fail
            refine hK _ _ HU6.out ?_
            clear hK
            iterate 4 (refine wpD_quiet ?_ (fun w' hS => ?_) ?_; rotate_left; (· obtain ⟨f3, f4, _⟩ := MK.out w' hS; go_simp; (try with_reducible rfl)); (try simp only [Act.put, List.setIfInBounds_toArray, List.set_cons_succ, List.set_cons_zero]))
            refine wpD_nil ?_
            go_wp2
            refine NoPanic.normal ?_
            obtain ⟨q3, q4, hpc⟩ := MK.out w6 HU6.out
            have HPC := Lib.hid hpc
            have hu56 : Upd (fun j => j = p) W5 w6 := R7.out.trNo HU6.out
            have HU56 := Lib.hid hu56
            have HI6 := Lib.hid (HI5.out.upd hu56 (fun j hj e => by have := HSp.out j hj; rw [show j = p from e] at this; omega))
            have hwW5 := HUw5.out.size
            have HUw6 : Hid (Upd S w w6) := Lib.hid (HUw5.out.trans hu56 (fun j hj e => by rw [show j = p from e] at hj; omega))
            have HFL : Hid (foundL acc.length tt acc = ⟨acc.length, tt, said, fin, false⟩) := Lib.hid (by unfold foundL; rw [HDONE.out])
            clear hpc hu56
            cases said with
            | nil =>
              have HO3 : Hid (D.opens = (140, Dc, none)) := Lib.hid (by rw [HO2.out]; unfold Dk.openF; rw [HFL.out]; rfl)
              go_wp2
              refine noGoto_ret ?_
              go_ret2
              rw [HO3.out]
              exact ⟨rfl, S2, HI6.out, HS5.out, HUw6.out⟩
            | cons s0 rest =>
              have hne : (((s0 :: rest).length : Int) == 0) = false := by simp; omega
              have hsl : ((s0 :: rest).length : Int) ≤ 1000 := by omega
              have hnn : (foundL acc.length tt acc).said ≠ [] := by rw [HFL.out]; exact List.cons_ne_nil _ _
              have hfok := found_ok (n := (acc.length : Int)) (turn := tt) ⟨b1, b2, b3, b4⟩ HA64.out rfl hnn
              obtain ⟨sd, hsde⟩ : ∃ sd, sd = s0 :: rest := ⟨_, rfl⟩
              rw [← hsde] at hne hsl HFL HPC R2 R3 q3 r5 R1 MK HDONE ⊢
              have hIW : IsWal w6 p d Dc S2 (foundL acc.length tt acc) := by
                refine ⟨HI6.out, fun e => by have := HSp.out p e; omega, hfok, .slice va sd.length vc, by rw [HFL.out]; exact HPC.out, ?_⟩
                rw [HFL.out]
                refine ⟨vals, (Rd.of_own R2.out).updNo HU6.out, fun j hj e => ?_, fun i v l hv hl => ?_⟩
                · have := own_ge R2.out j hj
                  rcases e with e | e
                  · have := HSp.out j e; omega
                  · omega
                · obtain ⟨h1, h2⟩ := R3.out i v l hv hl
                  refine ⟨h1.updNo HU6.out, fun j hj e => ?_⟩
                  have := h2 j hj
                  rcases e with e | e
                  · have := HSp.out j e; omega
                  · omega
              have hOF : Hid (D.opens = if (Dc.clears (foundL acc.length tt acc) acc).1 = 0 then (0, (Dc.clears (foundL acc.length tt acc) acc).2, some (foundL acc.length tt acc)) else ((Dc.clears (foundL acc.length tt acc) acc).1, (Dc.clears (foundL acc.length tt acc) acc).2, none)) :=
                Lib.hid (by rw [HO2.out]; unfold Dk.openF; rw [if_neg hnn])
              have HIW := Lib.hid hIW
              have HNN := Lib.hid hnn
              clear hIW hfok hnn hsde
              go_wp2_with (go_at_call 49; refine halted ?_)
              unfold Halted
              refine (walClears w6 p d Dc S2 _ HIW.out (m + 1) 0 acc.length acc (HF5.out _ (HU56.out.mono (fun _ _ e => .inl e))) (by show (acc.length : Int) = _; rfl) (fun e => ?_) (by rw [i4]; omega)).mono ?_
              · exact (I2.out _ e).elim (fun h => by have := hS1m _ h; omega) (fun h => by omega)
              rintro e7 w7 ⟨rfl, hto⟩
              obtain ⟨S3, j1, j2, j3⟩ := hto
              obtain ⟨R, hR⟩ : ∃ R, R = Dc.clears (foundL acc.length tt acc) acc := ⟨_, rfl⟩
              rw [← hR] at hOF j1 ⊢
              have K1 := Lib.hid j1
              have K2 := Lib.hid j2
              have K3 := Lib.hid j3
              have HUw7 : Hid (Upd S w w7) := Lib.hid (HUw6.out.trans j3 (fun j hj e => (HS5.out j e).elim id (fun h => by omega)))
              have HS7 : Hid (∀ j, S3 j → S j ∨ w.heap.size ≤ j) := Lib.hid fun j hj => (j2 j hj).elim (HS5.out j) (fun h => .inr (by have := HUw6.out.size; omega))
              clear j1 j2 j3 hR
              by_cases hc : R.1 = 0
              · have HO3 : Hid (D.opens = (0, R.2, some (foundL acc.length tt acc))) := Lib.hid (by rw [hOF.out, if_pos hc])
                rw [hc]
                clear hc hOF
                go_wp2
                refine noGoto_ret ?_
                go_ret2
                rw [HO3.out]
                obtain ⟨_, w2', w3', vs, w4', w5'⟩ := HIW.out
                have hp6 := lt_of_heap w4'
                refine ⟨p, hwp, rfl, S3, ⟨K1.out, fun e => (K2.out p e).elim w2' (fun h => by omega), w3', vs, K3.out.heap w4' w2', w5'.upd K3.out (fun j _ e => .inl e) (fun j hj e => e.imp (fun e => (K2.out j e).elim id (fun h => by omega)) id)⟩, HS7.out, HUw7.out.mono (fun _ _ e => .inl e)⟩
              · have HO3 : Hid (D.opens = (R.1, R.2, none)) := Lib.hid (by rw [hOF.out, if_neg hc])
                have hne2 : (R.1 == 0) = false := by simpa using hc
                clear hc hOF
                go_wp2
                refine noGoto_ret ?_
                go_ret2
                rw [HO3.out]
                exact ⟨rfl, S3, K1.out, HS7.out, HUw7.out⟩
          | some l =>
            rw [hsd] at hst
            obtain ⟨al, cl, rfl, hrl, hlb, hl4⟩ := hst
            obtain ⟨hs1, hs2, hs3⟩ := stands_some HA64.out hsd
            have HNEXT : Hid (saidGo tt acc (acc.length + 1) [] 0 = saidGo tt acc (acc.length + 1) (said ++ [l]) (fin + (sectorsOf l.length).toNat)) := Lib.hid (by rw [R4.out, saidGo_step HA64.out r6 hsd])
            have HU6 := Lib.hid ((Upd.refl NoS wr).drew.tr hu6)
            have HRL := Lib.hid hrl
            have HLB : Hid (∀ j, (Value.slice al l.length cl).ownBlock = some j → W5.heap.size ≤ j) := Lib.hid fun j hj => Nat.le_trans R7.out.size (hlb j hj)
            clear hu6 hsd hrl hlb
            go_wp2_with fail
            refine hK _ _ HU6.out ?_
            clear hK
            iterate 4 (refine wpD_quiet ?_ (fun w' hS => ?_) ?_; rotate_left; (· obtain ⟨f3, f4, _⟩ := MK.out w' hS; go_simp; (try with_reducible rfl)); (try simp only [Act.put, List.setIfInBounds_toArray, List.set_cons_succ, List.set_cons_zero]))
            refine wpD_nil ?_
            go_wp2
            refine NoPanic.normal ?_
            obtain ⟨q3, q4, hpc⟩ := MK.out w6 HU6.out
            have HPC := Lib.hid hpc
            have hpz := lt_of_heap hpc
            clear hpc q4
            obtain ⟨iS, hiS, hzS, hsS, hbS⟩ := info_parts infoS
            go_wp2_with (refine wpList_sliceOne rfl rfl rfl Try.underlying51 hiS hzS hsS (by decide) (by decide) (fillS al l.length cl) ?_; refine halted ?_)
            unfold Halted
            obtain ⟨WA, hWA⟩ : ∃ WA, WA = w6.alloc (.cells #[.slice al l.length cl] 35) := ⟨_, rfl⟩
            rw [← hWA]
            have huA : Upd NoS wr WA := by rw [hWA]; exact HU6.out.alloc _
            have hu6A : Upd NoS w6 WA := by rw [hWA]; exact (Upd.refl NoS w6).alloc _
            have hgA : WA.heap[w6.heap.size]? = some (.cells #[.slice al l.length cl] 35 (0, 0)) := by rw [hWA]; exact heap_new _ _
            clear hWA
            have hr5z := R7.out.size
            have h6z := HU6.out.size
            obtain ⟨a8, c8, w8, hrun8, ho8, hgr8⟩ := run_append_rd (P := Try.prog) (w := WA) (t := 51) (ty := 51) (s := .slice (some ⟨w6.heap.size, 0, none⟩) 1 1) (m := 1) (ys := [.slice al l.length cl]) Try.underlying51 hiS hzS hsS hbS rfl (by decide) (own_upd R2.out huA (fun _ _ h => h))
              (show Rd WA 35 1 (.slice (some ⟨w6.heap.size, 0, none⟩) 1 1) 1 [.slice al l.length cl] from ⟨rfl, .inr ⟨w6.heap.size, 0, 1, _, (0, 0), rfl, Nat.le_refl 1, by unfold maxLen; decide, hgA, rfl⟩⟩)
              (fun u hu => by rw [List.mem_singleton.1 hu]; rfl) (by unfold maxLen; omega) (by omega) (by have := huA.size; omega)
            have hpA := hu6A.heap HPC.out id
            have hpo : ∀ j, (Value.slice va said.length vc).ownBlock = some j → j ≠ p := fun j hj => own_ne (own_upd R2.out huA (fun _ _ h => h)) hpA (by decide) j hj
            have hp8 := (hgr8.block p (lt_of_heap hpA) (fun e => hpo p e.symm rfl)).trans hpA
            have q83 := cell_at hp8 3
            have f83 := free_at hp8 3
            simp only [walC, List.getElem?_toArray, List.getElem?_cons_zero, List.getElem?_cons_succ] at q83
            have HP8 := Lib.hid hp8
            have HO8 := Lib.hid ho8
            have HRUN8 := Lib.hid hrun8
            have HGR8 := Lib.hid hgr8
            have HUA := Lib.hid huA
            have HU6A := Lib.hid hu6A
            have HPO := Lib.hid hpo
            clear huA hu6A hgA hrun8 ho8 hgr8 hpA hp8 hpo hiS hzS hsS hbS
            go_wp2_with (refine wpList_app rfl _ _ _ rfl rfl rfl HRUN8.out ?_; refine halted ?_)
            unfold Halted
            go_wp2
            refine wp_name ?_
            intro W9 hW9
            have hp9 : W9.heap[p]? = some (.cells (walC d ⟨acc.length, tt, said, fin, false⟩ (.slice a8 (said.length + 1) c8)) 73 (0, 0)) := by rw [hW9, heap_set HP8.out 3]; rfl
            have hu89 : Upd (fun j => j = p) w8 W9 := by rw [hW9]; exact (Upd.refl (fun j => j = p) w8).setCell ⟨p, 3, none⟩ _ (fun _ => rfl)
            clear hW9 q83 f83 q3
            have HP9 := Lib.hid hp9
            have HU89 := Lib.hid hu89
            have MK4 : Hid (∀ w', Upd NoS W9 w' → w'.cell? ⟨p, 4, none⟩ = some (.int .i64 fin)) := Lib.hid fun w' hu => cell_at (hu.heap hp9 id) 4
            clear hp9 hu89
            refine wp_region_canon (fun w' => Upd NoS W9 w') 8 3 [6] [0, 1, 2, 3, 4, 5, 6, 7] rfl (by kernel_rfl) (by decide) (by kernel_rfl) (by kernel_rfl) (by kernel_rfl) (by kernel_rfl) (by kernel_rfl) ((Upd.refl _ _).drew) ?_
            simp only [List.take_succ_cons, List.take_zero, List.drop_succ_cons, List.drop_zero, pick, List.getElem?_cons_succ, List.getElem?_cons_zero, Nat.reduceBEq, List.contains_cons, List.contains_nil, Bool.or_self, Bool.or_false, Bool.or_true, Bool.true_or, Bool.false_or]
            iterate 6 (refine wpD_quiet ?_ (fun w' hS => ?_) ?_; rotate_left; (· have f4 := MK4.out w' hS; go_simp; (try with_reducible rfl)); (try simp only [Act.put, List.setIfInBounds_toArray, List.set_cons_succ, List.set_cons_zero]))
            refine wpD_loud (fun K hK => ?_)
            go_wp2_with fail
            refine (walSectors _ _).mono ?_
            rintro e10 w10 ⟨rfl, rfl⟩
            obtain ⟨sc, hsc⟩ : ∃ sc : Nat, sectorsOf l.length = (sc : Int) := ⟨(sectorsOf l.length).toNat, by omega⟩
            rw [hsc] at hs1 hs2 HNEXT ⊢
            rw [Int.toNat_natCast] at hs1 HNEXT
            have HSC := Lib.hid hsc
            clear hsc
            go_wp2_with fail
            refine hK _ _ ((Upd.refl _ _).drew) ?_
            clear hK
            iterate 1 (refine wpD_quiet ?_ (fun w' hS => ?_) ?_; rotate_left; (· have f4 := MK4.out w' hS; go_simp; (try with_reducible rfl)); (try simp only [Act.put, List.setIfInBounds_toArray, List.set_cons_succ, List.set_cons_zero]))
            refine wpD_nil ?_
            have q4 := MK4.out _ ((Upd.refl _ _).drew)
            have f4 : W9.drew.frozen? ⟨p, 4, none⟩ = false := free_at (show W9.drew.heap[p]? = _ from HP9.out) 4
            go_wp2
            refine NoPanic.normal ?_
            go_wp2
            obtain ⟨W10, hW10⟩ : ∃ W10, W10 = (W9.setCell ⟨p, 4, none⟩ (.int .i64 ((fin : Int) + (sc : Int)))).drew := ⟨_, rfl⟩
            rw [← hW10]
            have hp10 : W10.heap[p]? = some (.cells (walC d ⟨acc.length, tt, said ++ [l], ((fin + sc : Nat) : Int), false⟩ (.slice a8 (said.length + 1) c8)) 73 (0, 0)) := by
              rw [hW10]
              exact (heap_set HP9.out 4 _).trans (by rw [Int.natCast_add]; rfl)
            have hu910 : Upd (fun j => j = p) W9 W10 := by rw [hW10]; exact ((Upd.refl (fun j => j = p) W9).setCell ⟨p, 4, none⟩ _ (fun _ => rfl)).drew
            clear hW10 q4 f4
            have hu810 := HU89.out.tr hu910
            have hA8 : Upd (fun j => (Value.slice va said.length vc).ownBlock = some j) WA w8 := (Upd.refl _ WA).grown HGR8.out (fun k hk _ => hk)
            have hRA := own_upd R2.out HUA.out (fun _ _ h => h)
            have hkeep : ∀ (v : Value) (x : List UInt8), Rd WA 5 1 v x.length (bvs x) → Rd W10 5 1 v x.length (bvs x) := fun v x hv =>
              (hv.upd hA8 (fun j hj e => by obtain ⟨cu, f0, hh⟩ := hv.block hj; exact own_ne hRA hh (by decide) j e rfl)).upd hu810 (fun j hj e => by
                have hv8 := hv.upd hA8 (fun j hj e => by obtain ⟨cu, f0, hh⟩ := hv.block hj; exact own_ne hRA hh (by decide) j e rfl)
                obtain ⟨cu, f0, hh⟩ := hv8.block hj
                rw [show j = p from e, HP8.out] at hh
                cases hh)
            have hsl : (said ++ [l]).length = said.length + 1 := by simp
            refine ⟨⟨said ++ [l], fin + sc, a8, c8, vals ++ [.slice al l.length cl], by rw [hsl]; exact hp10, ?_, ?_, HNEXT.out, by rw [hsl]; omega, by omega, ?_⟩, ?_⟩
            · rw [hsl]
              exact own_upd HO8.out hu810 (fun j hj e => own_ne HO8.out HP8.out (by decide) j hj e)
            · intro i v x hv hx
              have hvl : vals.length = said.length := by simpa using R2.out.1
              by_cases hi : i < said.length
              · rw [List.getElem?_append_left (by omega)] at hv
                rw [List.getElem?_append_left hi] at hx
                obtain ⟨h1, h2⟩ := R3.out i v x hv hx
                exact ⟨hkeep v x (h1.updNo HUA.out), h2⟩
              · rw [List.getElem?_append_right (by omega)] at hv hx
                rw [hvl] at hv
                have hi0 : i - said.length = 0 := by
                  have := (List.getElem?_eq_some_iff.1 hx).1
                  simp at this
                  omega
                rw [hi0] at hv hx
                cases hv
                cases hx
                exact ⟨hkeep _ _ (HRL.out.updNo HU6A.out), HLB.out⟩
            · exact (((R7.out.trNo HUA.out).trans hA8 (fun k hk e => absurd hk (by have := own_ge R2.out k e; omega))).tr hu810)
            · have h1 := cell_at hp10 4
              have h2 := cell_at R1.out 4
              simp only [walC, List.getElem?_toArray, List.getElem?_cons_zero, List.getElem?_cons_succ] at h1 h2
              rw [h1, h2]
              simp only [Option.getD_some, intOf]
              omega
end Go.Proofs.Ytomgdfoahfhijaa
