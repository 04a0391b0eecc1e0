/- disk: settle, Sync. -/
import Derived.Test.YtomgdfoahfhijaaDsw
set_option linter.unusedVariables false
set_option linter.unusedSimpArgs false
namespace Go.Proofs.Ytomgdfoahfhijaa
open Go.RowKit

def settled (f : Nat → Bool) : Nat → List (Int × List UInt8) → Ents → Ents
  | _, [], es => es
  | i, p :: l, es => settled f (i + 1) l (if f i then es.put p.1 p.2 else es)
theorem settled_snoc (f : Nat → Bool) (p : Int × List UInt8) : ∀ (l : List (Int × List UInt8)) (i : Nat) (es : Ents), settled f i (l ++ [p]) es = if f (i + l.length) then (settled f i l es).put p.1 p.2 else settled f i l es
  | [], i, es => by simp [settled]
  | q :: l, i, es => by
    rw [List.cons_append, settled, settled_snoc f p l (i + 1), settled, List.length_cons]
    rw [show i + 1 + l.length = i + (l.length + 1) by omega]
theorem put_len {es : Ents} {a : Int} {v : List UInt8} (h : ∀ p ∈ es, p.2.length = 64) (hv : v.length = 64) : ∀ p ∈ es.put a v, p.2.length = 64 := by
  induction es with
  | nil => intro p hp; simp [Ents.put] at hp; rw [hp]; exact hv
  | cons q es ih =>
    unfold Ents.put
    split
    · intro p hp
      rcases List.mem_cons.1 hp with rfl | h'
      · exact hv
      · exact h p (List.mem_cons_of_mem _ h')
    · intro p hp
      rcases List.mem_cons.1 hp with rfl | h'
      · exact h _ (List.mem_cons_self ..)
      · exact ih (fun p hp => h p (List.mem_cons_of_mem _ hp)) p h'
theorem settled_len (f : Nat → Bool) : ∀ (l : List (Int × List UInt8)) (i : Nat) (es : Ents), (∀ p ∈ es, p.2.length = 64) → (∀ p ∈ l, p.2.length = 64) → ∀ p ∈ settled f i l es, p.2.length = 64
  | [], _, _, h, _ => h
  | q :: l, i, es, h, hl => by
    unfold settled
    refine settled_len f l (i + 1) _ ?_ (fun p hp => hl p (List.mem_cons_of_mem _ hp))
    split
    · exact put_len h (hl q (List.mem_cons_self ..))
    · exact h
theorem wpList_mapUp {P : Program} {w w' : World} {ops : Array Oper} {rest : List Oper} {o : Oper} {a : Act} {Q : Exit → Act → World → Prop} {vm vk vv : Value} (hg : o.guard = none) (m x v : Operand) (t : TypeId) (hop : o.op = Op.mapUpdate t m x v)
    (hm : a.eval m = vm) (hx : a.eval x = vk) (hv : a.eval v = vv) (hrun : (Instr.mapUpdate t vm vk vv).run P w = .ok () w') (hK : wpList P ops Q rest (a.put o.dst undef) w') : wpList P ops Q (o :: rest) a w := by
  refine wpList_plain hg fun K' hK' => ?_
  unfold Oper.wp
  simp [execOp, hop, hm, hx, hv, hrun, Result.andThen]
  exact hK' _ _ hK
theorem flat_at {l : List (Int × List UInt8)} (hl : ∀ p ∈ l, p.2.length = 64) {k : Nat} (hk : k < l.length) : ((l.flatMap wrote).drop (k * 65)).take 65 = wrote l[k] := by
  induction l generalizing k with
  | nil => simp at hk
  | cons p l ih =>
    have hp : (wrote p).length = 65 := by simp [wrote, hl p (List.mem_cons_self ..)]
    rw [List.flatMap_cons]
    cases k with
    | zero => rw [Nat.zero_mul, List.drop_zero, List.take_append_of_le_length (by omega), List.take_of_length_le (by omega)]; rfl
    | succ k =>
      rw [show (k + 1) * 65 = (wrote p).length + k * 65 by omega, List.drop_length_add_append, ih (fun q hq => hl q (List.mem_cons_of_mem _ hq)) (by simpa using hk)]
      rfl
theorem sizeWr : (Try.prog.info? 108).map (·.size) = some 65 := by kernel_rfl

set_option maxRecDepth 100000 in
set_option maxHeartbeats 4000000 in
theorem dskSettle (w : World) (d : Nat) (D : Dk) (S : Nat → Prop) (h : IsDisk w d D S) (fn : Nat) (cap : Array Value) (f : Nat → Bool) (hfn : entersAt Try.prog fn = true) (hl : D.loose.length ≤ 1000000000)
    (hst : ∀ i : Nat, i < D.loose.length → ∀ w', Upd S w w' → Calls Try.prog fn (#[.int .i64 (i : Int)] ++ cap) w' fun e w'' => e = .returned (.bool (f i)) ∧ Upd NoS w' w'') :
    Calls Try.prog 59 #[.pointer (some ⟨d, 0, none⟩), .func (.func fn) #[] cap] w fun e w' => e = .returned (.tuple #[]) ∧ DskTo w w' d { D with firm := settled f 0 D.loose D.firm, loose := [] } S := by
  obtain ⟨m, v, hS, hd, hm, hv, ho⟩ := h
  obtain ⟨a, c, rfl⟩ := own_shape hv
  have hmd : m ≠ d := by
    obtain ⟨arr, clock, hh, _⟩ := hm
    intro e; rw [e, hd] at hh; cases hh
  have hma : ∀ g, (Value.slice a D.loose.length c).ownBlock = some g → g ≠ m := by
    rintro g e rfl
    obtain ⟨arr, clock, hh, _⟩ := hm
    rcases hv.2 with ⟨h1, _⟩ | ⟨g, cap, cur, hv, _, hg, _⟩
    · rw [h1] at e; cases e
    · rw [hv] at e; cases e; rw [hg] at hh; cases hh
  have c2 := cell_at hd 2
  simp only [Dk.cells, List.getElem?_toArray, List.getElem?_cons_zero, List.getElem?_cons_succ] at c2
  have HV := Lib.hid hv
  have HD := Lib.hid hd
  have HM := Lib.hid hm
  have HO := Lib.hid ho
  have HS := Lib.hid hS
  have HST := Lib.hid hst
  have HMD := Lib.hid hmd
  have HMA := Lib.hid hma
  have HFN := Lib.hid hfn
  clear hv hd hm ho hS hst hmd hma hfn
  go_enter Try.func59, Try.ntmps59
  go_wp2
  go_loopw [11] (fun kv wr => ∃ k : Nat, k ≤ D.loose.length ∧ kv = .int .i64 k ∧ IsMap wr m (settled f 0 (D.loose.take k) D.firm) ∧ Upd (OneS m) w wr) (fun kv _ => D.loose.length - (intOf kv).toNat)
  case atStart => exact ⟨0, Nat.zero_le _, rfl, HM.out, Upd.refl _ _⟩
  case round =>
    obtain ⟨k, hk, rfl, hm, hu⟩ := hrel
    by_cases hlt : k < D.loose.length
    · obtain ⟨g, c', he, _, hnc, hcm⟩ := own_pos HV.out (by omega)
      cases he
      have hgm : g ≠ m := HMA.out g rfl
      have hrow : ∃ cur, wr.heap[g]? = some (.cells cur 108 (0, 0)) ∧ k * 65 + 65 ≤ cur.size ∧ ((cur.toList.drop (k * 65)).take 65) = wrote D.loose[k] := by
        rcases HV.out.2 with ⟨h1, _⟩ | ⟨g', cap', cur, hv, _, hg, hnc', _, hcs, ht⟩
        · cases h1
        · cases hv
          refine ⟨cur, hu.heap hg (fun e => hgm e), by rw [hcs]; omega, ?_⟩
          rw [← flat_at HO.out.loose hlt, ← ht, List.drop_take, List.take_take, Nat.min_eq_left (by omega)]
      obtain ⟨cur, hg, hcs, ht⟩ := hrow
      have HGR := Lib.hid hg
      have HT := Lib.hid ht
      have HMR := Lib.hid hm
      have HUR := Lib.hid hu
      clear hg ht hm hu
      go_wp2_with (first
        | (refine wpList_loadA HGR.out Try.underlying108 rfl sizeWr hcs rfl (x := .tmp 14) rfl rfl ?_; rw [HT.out])
        | (refine wpList_store0 (heap_new _ _) sizeWr (size_wrote (HO.out.loose _ (List.getElem_mem hlt))) (by rfl) (one_wrote _) rfl (x := .tmp 5) (y := .tmp 15) rfl rfl rfl ?_; intro w1 hg1 hu1 hs1))
      obtain ⟨p, hp⟩ : ∃ p, p = D.loose[k] := ⟨_, rfl⟩
      have hp64 : p.2.length = 64 := by rw [hp]; exact HO.out.loose _ (List.getElem_mem hlt)
      have htk : D.loose.take (k + 1) = D.loose.take k ++ [p] := by rw [hp, List.take_succ_eq_append_getElem hlt]
      rw [← hp] at hg1 ⊢
      have hNm : m < wr.heap.size := HMR.out.lt
      obtain ⟨N, hN⟩ : ∃ N, N = wr.heap.size := ⟨_, rfl⟩
      have hu1' : Upd (OneS m) w w1 := (HUR.out.alloc _).trans hu1 (fun k hk e => absurd hk (by have := HUR.out.size; rw [show k = wr.heap.size from e]; omega))
      have hm1 := (HMR.out.upd ((Upd.refl NoS wr).alloc _) id).upd hu1 (fun e => by rw [show m = wr.heap.size from e] at hNm; exact Nat.lt_irrefl _ hNm)
      rw [← hN] at hg1 ⊢
      have htk2 := settled_snoc f p (D.loose.take k) 0 D.firm
      rw [← htk, show 0 + (D.loose.take k).length = k by rw [Nat.zero_add, List.length_take]; omega] at htk2
      rw [callFunc_at HFN.out, Oper.upon_enter]
      refine (HST.out k hlt w1 (hu1'.mono (fun j _ e => (HS.out j).2 (.inr (.inl e))))).mono ?_
      rintro e w2 ⟨rfl, hu2⟩
      have hg2 := hu2.heap hg1 id
      have hm2 := hm1.upd hu2 id
      have hu02 : Upd (OneS m) w w2 := hu1'.trNo hu2
      have hd2 := hu02.heap HD.out (fun e => HMD.out e.symm)
      have HG2 := Lib.hid hg2
      have HM2 := Lib.hid hm2
      have HU2 := Lib.hid hu02
      have HD2 := Lib.hid hd2
      have HTK := Lib.hid htk2
      clear hp htk hg1 hu1 hs1 hu1' hm1 hu2 hg2 hm2 hu02 hd2 htk2 hN hNm HT
      cases hfk : f k with
      | false =>
        have HFK := Lib.hid hfk
        clear hfk
        go_wp2
        refine ⟨⟨k + 1, by omega, by go_num, ?_, HU2.out⟩, by simp [intOf]; omega⟩
        rw [HTK.out, HFK.out]
        exact HM2.out
      | true =>
        have HFK := Lib.hid hfk
        clear hfk
        have MK : Hid (∀ w', Upd NoS w2 w' → w'.cell? ⟨d, 1, none⟩ = some (.map (some m)) ∧ w'.cell? ⟨N, 0, none⟩ = some (.int .i64 p.1) ∧ w'.heap[N]? = some (.cells (wrote p).toArray 108 (0, 0))) := Lib.hid fun w' hu => by
          have k0 := hu.heap HD2.out id
          have k1 := hu.heap HG2.out id
          exact ⟨cell_at k0 1, cell_at k1 0, k1⟩
        go_wp2
        refine wp_region_canon (fun w' => Upd NoS w2 w') 8 1 [] [0, 1, 2, 3, 4, 5, 6, 7] rfl (by kernel_rfl) (by decide) (by kernel_rfl) (by kernel_rfl) (by kernel_rfl) (by kernel_rfl) (by kernel_rfl) ((Upd.refl _ _).drew) ?_
        simp only [List.take_succ_cons, List.take_zero, List.drop_succ_cons, List.drop_zero, pick, List.getElem?_cons_succ, List.getElem?_cons_zero, Nat.reduceBEq, List.contains_cons, List.contains_nil, Bool.or_self, Bool.or_false, Bool.or_true, Bool.true_or, Bool.false_or]
        iterate 7 (refine wpD_quiet ?_ (fun w' hS => ?_) ?_; rotate_left; (· obtain ⟨f0, f1, f2⟩ := MK.out w' hS; go_simp; (try with_reducible rfl)); (try simp only [Act.put, List.setIfInBounds_toArray, List.set_cons_succ, List.set_cons_zero]))
        refine wpD_quiet _ (fun w' hS => exec_loadA (off := 1) (MK.out w' hS).2.2 Try.underlying80 rfl sizeBlock (by rw [size_wrote hp64]; decide) rfl rfl) ?_
        simp only [Act.put, List.setIfInBounds_toArray, List.set_cons_succ, List.set_cons_zero]
        refine wpD_nil ?_
        have e64 : (((wrote p).toArray.toList.drop 1).take 64).toArray = (bvs p.2).toArray := by
          simp only [wrote, List.drop_succ_cons, List.drop_zero]
          rw [List.take_of_length_le (by simp [hp64])]
        rw [e64]
        obtain ⟨w4, hrun4, hm4, hu4⟩ := run_update_block (P := Try.prog) Try.underlying95 Try.underlying3 (HM2.out.upd (Upd.refl NoS w2).drew id) p.1 p.2
        refine wpList_mapUp rfl _ _ _ _ rfl rfl rfl rfl hrun4 ?_
        have HM4 := Lib.hid hm4
        have HU4 := Lib.hid (HU2.out.drew.tr hu4)
        clear hm4 hu4 hrun4
        refine NoPanic.normal ?_
        go_wp2
        refine ⟨⟨k + 1, by omega, by go_num, ?_, HU4.out⟩, by simp [intOf]; omega⟩
        rw [HTK.out, HFK.out]
        exact HM4.out
    · obtain rfl : k = D.loose.length := by omega
      rw [List.take_length] at hm
      have hd3 := hu.heap HD.out (fun e => HMD.out e.symm)
      have c3 := cell_at hd3 2
      have f3 := free_at hd3 2
      simp only [Dk.cells, List.getElem?_toArray, List.getElem?_cons_zero, List.getElem?_cons_succ] at c3
      have HD3 := Lib.hid hd3
      have HM3 := Lib.hid hm
      have HU3 := Lib.hid hu
      clear hd3 hm hu
      go_wp2
      go_end0
      have hu5 : Upd S w (wr.setCell ⟨d, 2, none⟩ (.slice none 0 0)) := (HU3.out.mono (fun k _ e => (HS.out k).2 (.inr (.inl e)))).setCell _ _ (fun _ => (HS.out d).2 (.inl rfl))
      refine ⟨rfl, fun k => k = d ∨ k = m ∨ (Value.slice none 0 0).ownBlock = some k, ⟨m, _, fun k => Iff.rfl, by rw [heap_set HD3.out]; rfl, HM3.out.upd ((Upd.refl (OneS d) wr).setCell ⟨d, 2, none⟩ _ (fun _ => rfl)) (fun e => HMD.out e), World.ownsRow_nil _ _ _ _, ?_⟩, ?_, hu5, sameMap_of (D' := { D with firm := settled f 0 D.loose D.firm, loose := [] }) HD.out (by rw [heap_set HD3.out]; rfl)⟩
      · have ho := HO.out
        exact ⟨ho.size1, ho.size2, settled_len f _ 0 _ ho.firm ho.loose, fun p hp => (by cases hp), ho.arms, ho.fails, ho.ops⟩
      · rintro k (rfl | rfl | h)
        · exact .inl ((HS.out _).2 (.inl rfl))
        · exact .inl ((HS.out _).2 (.inr (.inl rfl)))
        · cases h

def Dk.firmed (D : Dk) (f : Nat → Bool) : Dk := { D with firm := settled f 0 D.loose D.firm, loose := [] }
def Dk.sync (D : Dk) : Int × Dk := if (D.ask 0 true).1 = 0 then (0, ((D.ask 0 true).2.firmed fun _ => true).op) else D.ask 0 true
theorem dskYes (w : World) (i : Int) : Calls Try.prog 80 #[.int .i64 i] w fun e w' => e = .returned (.bool true) ∧ Upd NoS w w' := by
  go_enter Try.func80, Try.ntmps80
  go_wp2
  go_ret
  exact ⟨rfl, Upd.refl _ _⟩
set_option maxRecDepth 100000 in
set_option maxHeartbeats 2000000 in
theorem dskSync1 (w : World) (d : Nat) (D : Dk) (S : Nat → Prop) (h : IsDisk w d D S) (b0 : Nat) (hl : D.loose.length ≤ 1000000000) (h0 : w.heap[b0]? = some (.cells #[.pointer (some ⟨d, 0, none⟩)] 26 (0, 0))) :
    Calls Try.prog 79 #[.pointer (some ⟨b0, 0, none⟩)] w fun e w' => e = .returned (.tuple #[]) ∧ DskTo w w' d (D.firmed fun _ => true) S := by
  have c0 := cell_at h0 0
  simp only [List.getElem?_toArray, List.getElem?_cons_zero] at c0
  have HI := Lib.hid h
  clear h h0
  go_enter Try.func79, Try.ntmps79
  go_wp2_with (go_at_call 59; refine (dskSettle _ d D S HI.out _ _ (fun _ => true) (by kernel_rfl) hl (fun i _ w' _ => by simpa using dskYes w' i)).mono ?_; rintro e w2 ⟨rfl, h2⟩)
  go_end0
  exact ⟨rfl, h2⟩
theorem DskTo.of {w W0 w' : World} {d : Nat} {D : Dk} {S : Nat → Prop} (h : DskTo W0 w' d D S) (hu : Upd NoS w W0) (hs : SameMap d w W0) : DskTo w w' d D S := by
  obtain ⟨S2, h1, h2, h3, h4⟩ := h
  exact ⟨S2, h1, fun k hk => (h2 k hk).imp id (fun h => h.to hu.size (Upd.refl NoS w') id), (hu.mono (fun _ _ h => h.elim)).tr h3, h4.trans hs⟩
set_option maxRecDepth 100000 in
set_option maxHeartbeats 2000000 in
theorem dskSync (w : World) (d : Nat) (D : Dk) (S : Nat → Prop) (h : IsDisk w d D S) (hl : D.loose.length ≤ 1000000000) :
    Calls Try.prog 63 #[.pointer (some ⟨d, 0, none⟩)] w fun e w' => e = .returned (.int .i64 D.sync.1) ∧ DskTo w w' d D.sync.2 S := by
  have HI := Lib.hid h
  go_enter Try.func63, Try.ntmps63
  go_wp2_with (go_at_call 70; refine halted ?_)
  unfold Halted
  refine calls_name ?_
  intro W0 hW0
  have hu0 : Upd NoS w W0 := by rw [hW0]; exact (Upd.refl NoS w).alloc _
  have hb0 : W0.heap[w.heap.size]? = some (.cells #[.pointer (some ⟨d, 0, none⟩)] 26 (0, 0)) := by rw [hW0]; exact heap_new _ _
  have hI0 := HI.out.updNo hu0
  clear hW0
  obtain ⟨hl1, _, _, _⟩ := Dk.ask_loose D 0 true
  have hdl := HI.out.lt d HI.out.self
  refine (dskAsked W0 d D S hI0 0 true _ _ (fun w1 D2 S2 w2 => D2 = (D.ask 0 true).2.firmed (fun _ => true) ∧ (∀ k, S2 k → S k ∨ NewCells w1 w2 k) ∧ Upd S w1 w2 ∧ SameMap d w1 w2) (callFunc_at (by kernel_rfl) _) (fun _ w1 hI1 hu1 hs1 => ?_)).mono ?_
  · refine (dskSync1 w1 d _ S hI1 _ (by rw [hl1]; exact hl) (hu1.heap hb0 (by simp only [OneS]; omega))).mono ?_
    rintro e w2 ⟨rfl, S2, h1, h2, h3, h4⟩
    exact ⟨rfl, _, S2, h1, rfl, h2, h3, h4⟩
  · rintro e w3 ⟨rfl, hp⟩
    go_wp2
    go_ret
    unfold AskPost at hp
    unfold Dk.sync
    have hdS := HI.out.self
    by_cases h0 : (D.ask 0 true).1 = 0
    · rw [if_pos h0]
      obtain ⟨D2, S2, w1, w2, hu1, hs1, ⟨rfl, hS2, hu2, hm2⟩, hI3, hu3, hs3, hm1, hm3⟩ := hp.2 h0
      have hm : ∀ {a b : World}, Upd (OneS d) a b → Upd S a b := fun h => h.mono (fun k _ e => by rw [show k = d from e]; exact hdS)
      refine ⟨by rw [h0]; rfl, S2, hI3, fun k hk => (hS2 k hk).imp id (fun h => h.to (by have := hu0.size; omega) hu3 (fun e => by have h7 := h.1; rw [show k = d from e] at h7; have := hu0.size; omega)), ?_⟩
      exact ⟨(((hu0.mono (fun _ _ h => h.elim)).tr (hm hu1)).tr hu2).tr (hm hu3), ((hm3.trans hm2).trans hm1).trans (sameMap_upd HI.out hu0 id)⟩
    · rw [if_neg h0]
      obtain ⟨h1, h2, h3, h4⟩ := hp.1 h0
      exact ⟨rfl, S, h1, fun k hk => .inl hk, (hu0.mono (fun _ _ h => h.elim)).tr (h2.mono (fun k _ e => by rw [show k = d from e]; exact hdS)), h4.trans (sameMap_upd HI.out hu0 id)⟩
end Go.Proofs.Ytomgdfoahfhijaa
