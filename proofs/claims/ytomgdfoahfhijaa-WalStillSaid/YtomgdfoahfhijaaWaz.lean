/- wal: Snapshot, Append, Checkpoint. -/
import Derived.Test.YtomgdfoahfhijaaWay
import Derived.Defers
set_option linter.unusedVariables false
set_option linter.unusedSimpArgs false
namespace Go.Proofs.Ytomgdfoahfhijaa
open Go.RowKit

theorem IsSaid.at {w : World} {vs : Value} {said : List (List UInt8)} {F : Nat → Prop} (h : IsSaid w vs said F) {i : Nat} {l : List UInt8} (hi : said[i]? = some l) :
    ∃ g o c a c', vs = .slice (some ⟨g, o, none⟩) said.length c ∧ w.cell? ⟨g, o + i, none⟩ = some (.slice a l.length c') ∧ Rd w 5 1 (.slice a l.length c') l.length (bvs l) ∧ ∀ k, (Value.slice a l.length c').ownBlock = some k → ¬ F k := by
  obtain ⟨vals, h1, h2, h3⟩ := h
  have hlt : i < said.length := (List.getElem?_eq_some_iff.1 hi).1
  have hvl : vals.length = said.length := by simpa using h1.1
  have hv : vals[i]? = some vals[i] := List.getElem?_eq_getElem (by omega)
  obtain ⟨h4, h5⟩ := h3 i _ l hv hi
  obtain ⟨a, c', he, _⟩ := h4.any
  rcases h1.shape with ⟨_, h0⟩ | ⟨g, o, c, rfl, _⟩
  · omega
  · have hc := h1.at i hv
    rw [he] at hc h4 h5
    exact ⟨g, o, c, a, c', rfl, hc, h4, h5⟩
def Wl.snap (L : Wl) : List UInt8 := L.said.headD []
set_option maxRecDepth 100000 in
theorem walSnap (w : World) (p d : Nat) (D : Dk) (S : Nat → Prop) (L : Wl) (h : IsWal w p d D S L) : Calls Try.prog 26 #[.pointer (some ⟨p, 0, none⟩)] w fun e w' =>
    ∃ a c, e = .returned (.slice a L.snap.length c) ∧ w'.ownsRow w.heap.size 5 1 (.slice a L.snap.length c) L.snap.length (bvs L.snap) ∧ Upd NoS w w' := by
  obtain ⟨a, n, c, hc, hs, hn, hnc⟩ := h.cells
  have hs0 := h.ok.s0
  have h0 : L.said[0]? = some L.snap := by
    unfold Wl.snap
    cases hq : L.said with
    | nil => rw [hq] at hs0; simp at hs0
    | cons x l => rfl
  have hle : L.snap.length ≤ 40000 := h.ok.each _ (List.mem_of_getElem? h0)
  obtain ⟨g, o, c1, a1, c2, hv, hcell, hr, _⟩ := hs.at h0
  cases hv
  have q3 : w.cell? ⟨p, 3, none⟩ = some (.slice (some ⟨g, o, none⟩) L.said.length c) := cell_at hc 3
  rw [Nat.add_zero] at hcell
  have HR := Lib.hid hr
  have h1 : (1 : Int) ≤ L.said.length := by omega
  clear h hc hs h0 hr
  go_enter Try.func26, Try.ntmps26
  go_wp2_with (at_builtin; refine halted ?_)
  unfold Halted
  obtain ⟨i0, hi, hz0, hz1, hz2⟩ := info_parts infoB
  obtain ⟨a3, c3, w3, hrun, hown, hu⟩ := run_append_nil_rd (P := Try.prog) (t := 35) (ty := 35) Try.underlying35 hi hz0 hz1 hz2 rfl (by decide) HR.out (bvs_one _) (by unfold maxLen; omega) (by omega)
  refine wpList_app rfl _ _ _ rfl rfl rfl hrun ?_
  clear hrun hi hz0 hz1 hz2
  go_wp2
  go_ret
  exact ⟨a3, c3, rfl, hown, hu⟩
theorem walBreaksD (u : FrameMode) (w : World) (p b : Nat) (cs : Array Value) (e : Int) (hp : w.heap[p]? = some (.cells cs 73 (0, 0))) (h5 : 5 < cs.size) (hb : w.heap[b]? = some (.cells #[.int .i64 e] 38 (0, 0))) :
    CallsD Try.prog 52 #[.pointer (some ⟨p, 0, none⟩), .pointer (some ⟨b, 0, none⟩)] u w fun r u' w' => u' = u ∧ ((∃ v, r = .returned v) ∧ w' = if e = 0 then w else w.setCell ⟨p, 5, none⟩ (.bool true)) := by
  have q1 := cell_at hb 0
  simp only [List.getElem?_toArray, List.getElem?_cons_zero] at q1
  have q2 := cell_at hp 5
  rw [Array.getElem?_eq_getElem h5] at q2
  have r2 := free_at hp 5
  by_cases h0 : e = 0
  · rw [if_pos h0]
    subst h0
    clear hp hb
    go_enter_d Try.func52, Try.ntmps52
    go_wp2
    go_end0
    exact ⟨⟨_, rfl⟩, rfl⟩
  · rw [if_neg h0]
    have hne : (e == 0) = false := by simpa using h0
    clear hp hb
    go_enter_d Try.func52, Try.ntmps52
    go_wp2
    go_end0
    exact ⟨⟨_, rfl⟩, rfl⟩
def Wl.append (L : Wl) (D : Dk) (b : List UInt8) : Int × Dk × Wl :=
  if L.refuses b.length ≠ 0 then (L.refuses b.length, D, L)
  else if L.n - L.fin < sectorsOf b.length then (6, D, L)
  else if (D.lays (fromOf L.n L.turn + L.fin) ((leavesOf L.turn L.said.length b.length b).map Subtype.val)).1 = 0 then
    (0, (D.lays (fromOf L.n L.turn + L.fin) ((leavesOf L.turn L.said.length b.length b).map Subtype.val)).2, { L with said := L.said ++ [b], fin := L.fin + sectorsOf b.length })
  else ((D.lays (fromOf L.n L.turn + L.fin) ((leavesOf L.turn L.said.length b.length b).map Subtype.val)).1, (D.lays (fromOf L.n L.turn + L.fin) ((leavesOf L.turn L.said.length b.length b).map Subtype.val)).2, { L with broken := true })
theorem WalTo.no {w w' : World} {p d : Nat} {D : Dk} {S : Nat → Prop} {L : Wl} (h : IsWal w p d D S L) (hu : Upd NoS w w') : WalTo w w' p d D L S :=
  ⟨S, h.updNo hu, fun _ h => .inl h, hu.of_no⟩
/-- .. and its disk keeps its map. -/
def WalOn (w w' : World) (p d : Nat) (D : Dk) (L : Wl) (S : Nat → Prop) : Prop := WalTo w w' p d D L S ∧ SameMap d w w'
theorem WalOn.no {w w' : World} {p d : Nat} {D : Dk} {S : Nat → Prop} {L : Wl} (h : IsWal w p d D S L) (hu : Upd NoS w w') : WalOn w w' p d D L S := ⟨WalTo.no h hu, sameMap_upd h.disk hu id⟩
theorem door_name {P : Program} {fn : Func} {R : Ending → World → Prop} {e : Exit} {a : Act} {w : World} (h : ∀ W, W = w → bodyPostD P fn R e a W) : bodyPostD P fn R e a w := h w rfl
set_option maxRecDepth 100000 in
set_option maxHeartbeats 4000000 in
theorem walAppend (w : World) (p d : Nat) (D : Dk) (S : Nat → Prop) (L : Wl) (h : IsWal w p d D S L) (e : Nat) (a : Option Addr) (c : Nat) (b : List UInt8) (hr : Rd w e 1 (.slice a b.length c) b.length (bvs b)) (hlo : D.loose.length ≤ 800000000) :
    Calls Try.prog 24 #[.pointer (some ⟨p, 0, none⟩), .slice a b.length c] w fun e w' => e = .returned (.int .i64 (L.append D b).1) ∧ WalOn w w' p d (L.append D b).2.1 (L.append D b).2.2 S := by
  have HI := Lib.hid h
  have HR := Lib.hid hr
  have hbm : b.length ≤ maxLen := by obtain ⟨_, _, hv, h1, h2, _⟩ := hr.any; cases hv; omega
  clear h hr
  go_enter_defers Try.func24, Try.ntmps24
  go_wp2_with (go_at_call 51; refine halted ?_)
  unfold Halted
  refine calls_name ?_
  intro W1 hW1
  have hu1 : Upd NoS w W1 := by rw [hW1]; exact (Upd.refl NoS w).alloc _
  have hg1 : W1.heap[w.heap.size]? = some (.cells #[.int .i64 0] 38 (0, 0)) := by rw [hW1]; exact heap_new _ _
  clear hW1
  have HU1 := Lib.hid hu1
  have HG1 := Lib.hid hg1
  clear hu1 hg1
  refine (walRefuses W1 p d D S L (HI.out.updNo HU1.out) a b.length c hbm).mono ?_
  rintro e1 w1 ⟨rfl, rfl⟩
  have hA : ∀ x, L.append D b = x → Hid (L.append D b = x) := fun x h => h
  by_cases h0 : L.refuses b.length = 0
  · have HA1 := Lib.hid h0
    rw [h0]
    clear h0
    have g1 := HG1.out
    have q1 := cell_at g1 0
    have f1 := free_at g1 0
    simp only [List.getElem?_toArray, List.getElem?_cons_zero] at q1
    clear g1
    go_wp2_with (go_at_call 10; refine (walSectors _ _).mono ?_; rintro e w' ⟨rfl, rfl⟩; refine halted ?_)
    unfold Halted
    rename World => W5
    obtain ⟨va, vn, vc, hvc0, hvs, rfl, hvcap⟩ := HI.out.cells
    have hvc := HU1.out.heap hvc0 id
    have hpw := lt_of_heap hvc0
    clear hvc0
    have hok := HI.out.ok
    have k1 := hok.n0
    have k2 := hok.n1
    have k3 := hok.f1
    have k4 : 0 ≤ L.fin := by have := hok.s1; omega
    have k5 := hok.t0
    have k6 := hok.t1
    have k7 : (L.said.length : Int) ≤ 1000 := by have := hok.s1; omega
    have hsec : 0 ≤ sectorsOf b.length ∧ sectorsOf b.length ≤ 40000 := by unfold sectorsOf; split <;> (try split) <;> omega
    have MK : Hid (∀ w', Upd NoS W5 w' → w'.cell? ⟨p, 0, none⟩ = some (.pointer (some ⟨d, 0, none⟩)) ∧ w'.cell? ⟨p, 1, none⟩ = some (.int .i64 L.n) ∧ w'.cell? ⟨p, 2, none⟩ = some (.int .u32 L.turn) ∧ w'.cell? ⟨p, 3, none⟩ = some (.slice va L.said.length vc) ∧ w'.cell? ⟨p, 4, none⟩ = some (.int .i64 L.fin)) :=
      Lib.hid fun w' hu => ⟨cell_at (hu.heap hvc id) 0, cell_at (hu.heap hvc id) 1, cell_at (hu.heap hvc id) 2, cell_at (hu.heap hvc id) 3, cell_at (hu.heap hvc id) 4⟩
    have HVC := Lib.hid hvc
    have HVS := Lib.hid hvs
    clear hvc hvs hok
    obtain ⟨sc, hsc⟩ : ∃ sc, sc = sectorsOf b.length := ⟨_, rfl⟩
    rw [← hsc] at hsec ⊢
    have HSC := Lib.hid hsc
    clear hsc
    obtain ⟨hsc0, hsc1⟩ := hsec
    go_wp2
    refine wp_region_canon (fun w' => Upd NoS W5 w') 11 1 [] [0, 1, 2, 3, 4, 5, 6, 7, 8, 9, 10] rfl (by kernel_rfl) (by decide) (by kernel_rfl) (by kernel_rfl) (by kernel_rfl) (by kernel_rfl) (by kernel_rfl) ((Upd.refl _ _).drew) ?_
    simp only [List.take_succ_cons, List.take_zero, List.drop_succ_cons, List.drop_zero, pick, List.getElem?_cons_succ, List.getElem?_cons_zero, Nat.reduceBEq, List.contains_cons, List.contains_nil, Bool.or_self, Bool.or_false, Bool.or_true, Bool.true_or, Bool.false_or]
    iterate 11 (refine wpD_quiet ?_ (fun w' hS => ?_) ?_; rotate_left; (· obtain ⟨f0, f1, f2, f3, f4⟩ := MK.out w' hS; go_simp; (try with_reducible rfl)); (try simp only [Act.put, List.setIfInBounds_toArray, List.set_cons_succ, List.set_cons_zero]))
    refine wpD_nil ?_
    have hw6 : IntKind.i64.wrap (L.n - L.fin) = L.n - L.fin := by rw [IntKind.wrap_i64]; omega
    rw [hw6]
    by_cases hroom : L.n - L.fin < sc
    · go_wp2
      refine NoPanic.normal ?_
      have g1 := HG1.out
      have q1 := cell_at g1 0
      have f1 := free_at g1 0
      simp only [List.getElem?_toArray, List.getElem?_cons_zero] at q1
      go_wp2
      have HA := hA (6, D, L) (by unfold Wl.append; rw [if_neg (by rw [HA1.out]; exact fun h => h rfl), ← HSC.out, if_pos hroom])
      have hg2 : (W5.setCell ⟨w.heap.size, 0, none⟩ (.int .i64 6)).drew.cell? ⟨w.heap.size, 0, none⟩ = some (.int .i64 6) := cell_at (heap_set HG1.out 0 _) 0
      refine ⟨.int .i64 6, by simp [results, Try.results24, go_sem, hg2], ?_⟩
      rw [HA.out]
      exact ⟨rfl, WalOn.no HI.out (HU1.out.setCell _ _ (fun e => absurd e (Nat.lt_irrefl _))).drew⟩
    · have hroom' : sc ≤ L.n - L.fin := by omega
      have hb4 : b.length ≤ 40000 := by
        have := HA1.out
        unfold Wl.refuses at this
        split at this
        · cases this
        · omega
      have HA : Hid (L.append D b = if (D.lays (fromOf L.n L.turn + L.fin) ((leavesOf L.turn L.said.length b.length b).map Subtype.val)).1 = 0 then
          (0, (D.lays (fromOf L.n L.turn + L.fin) ((leavesOf L.turn L.said.length b.length b).map Subtype.val)).2, { L with said := L.said ++ [b], fin := L.fin + sectorsOf b.length })
          else ((D.lays (fromOf L.n L.turn + L.fin) ((leavesOf L.turn L.said.length b.length b).map Subtype.val)).1, (D.lays (fromOf L.n L.turn + L.fin) ((leavesOf L.turn L.said.length b.length b).map Subtype.val)).2, { L with broken := true })) :=
        Lib.hid (by unfold Wl.append; rw [if_neg (by rw [HA1.out]; exact fun h => h rfl), ← HSC.out, if_neg hroom])
      clear hA
      go_wp2
      refine NoPanic.normal ?_
      go_wp2_with (at_builtin; refine halted ?_)
      unfold Halted
      obtain ⟨i0, hi, hz0, hz1, hz2⟩ := info_parts infoB
      obtain ⟨a3, c3, W6, hrun, hown, hu6⟩ := run_append_nil_rd (P := Try.prog) (t := 35) (ty := 35) (w := W5.drew) Try.underlying35 hi hz0 hz1 hz2 rfl (by decide) (HR.out.updNo HU1.out.drew) (bvs_one b) (by unfold maxLen; omega) (by omega)
      refine wpList_app rfl _ _ _ rfl rfl rfl hrun ?_
      have HU6 := Lib.hid ((Upd.refl NoS W5).drew.tr hu6)
      have HOWN := Lib.hid hown
      clear hrun hi hz0 hz1 hz2 i0 hown hu6
      go_wp2
      refine wp_region_canon (fun w' => Upd NoS W6 w') 28 2 [9, 27] [0, 1, 2, 3, 4, 5, 6, 7, 8, 10, 11, 12, 13, 15, 16, 17, 18, 19, 20, 21, 22, 23, 24, 25, 26, 9, 14, 27] rfl (by kernel_rfl) (by decide) (by kernel_rfl) (by kernel_rfl) (by kernel_rfl) (by kernel_rfl) (by kernel_rfl) ((Upd.refl _ _).drew) ?_
      simp only [List.take_succ_cons, List.take_zero, List.drop_succ_cons, List.drop_zero, pick, List.getElem?_cons_succ, List.getElem?_cons_zero, Nat.reduceBEq, List.contains_cons, List.contains_nil, Bool.or_self, Bool.or_false, Bool.or_true, Bool.true_or, Bool.false_or]
      have MB : Hid (∀ w', Upd NoS W6 w' → w'.heap[p]? = some (.cells (walC d L (.slice va L.said.length vc)) 73 (0, 0))) := Lib.hid fun w' hu => (HU6.out.tr hu).heap HVC.out id
      have hk7 : (L.said.length : Int) % 4294967296 = L.said.length := by omega
      iterate 8 (refine wpD_quiet ?_ (fun w' hS => ?_) ?_; rotate_left; (· obtain ⟨f0, f1, f2, f3, f4⟩ := MK.out w' (HU6.out.tr hS); go_simp; (try with_reducible rfl)); (try simp only [Act.put, List.setIfInBounds_toArray, List.set_cons_succ, List.set_cons_zero]))
      have e40 : ((walC d L (.slice va L.said.length vc)).toList.drop 0 |>.take 3).toArray = bookC d L.n L.turn := rfl
      refine wpD_quiet (.agg (bookC d L.n L.turn)) (fun w' hS => (exec_loadA (off := 0) (MB.out w' hS) Try.underlying71 rfl sizeBook (show 0 + 3 ≤ 6 by decide) rfl rfl).trans (by rw [e40])) ?_
      simp only [Act.put, List.setIfInBounds_toArray, List.set_cons_succ, List.set_cons_zero]
      iterate 16 (refine wpD_quiet ?_ (fun w' hS => ?_) ?_; rotate_left; (· obtain ⟨f0, f1, f2, f3, f4⟩ := MK.out w' (HU6.out.tr hS); go_simp; (try with_reducible rfl)); (try simp only [Act.put, List.setIfInBounds_toArray, List.set_cons_succ, List.set_cons_zero]))
      obtain ⟨hf2, hf3⟩ := fromOf_le (n := L.n) (turn := L.turn) (by omega) (by omega)
      refine wpD_loud (fun K hK => ?_)
      go_wp2_with fail
      refine (walFrom _ d L.n L.turn (by omega) k2 k5 k6).mono ?_
      rintro e7 w7 ⟨rfl, hu7⟩
      have HU7 := Lib.hid ((Upd.refl NoS W6).drew.tr hu7)
      clear hu7
      go_wp2_with fail
      refine hK _ _ HU7.out ?_
      clear hK
      obtain ⟨fr, hfr⟩ : ∃ fr, fr = fromOf L.n L.turn := ⟨_, rfl⟩
      rw [← hfr] at hf2 hf3 ⊢
      have HFR := Lib.hid hfr
      clear hfr
      iterate 1 (refine wpD_quiet ?_ (fun w' hS => ?_) ?_; rotate_left; (· obtain ⟨f0, f1, f2, f3, f4⟩ := MK.out w' (HU6.out.tr hS); go_simp; (try with_reducible rfl)); (try simp only [Act.put, List.setIfInBounds_toArray, List.set_cons_succ, List.set_cons_zero]))
      refine wpD_loud (fun K hK => ?_)
      go_wp2_with fail
      refine (walLeaves w7 L.turn L.said.length a3 b.length c3).mono ?_
      rintro e8 w8 ⟨rfl, hw8⟩
      rw [← alloc3] at hw8
      have hu8 : Upd NoS w7 w8 := by rw [hw8]; exact alloc3_upd _ _ _ _
      have HU8 := Lib.hid (HU7.out.tr hu8)
      have HW8 := Lib.hid hw8
      clear hu8 hw8
      go_wp2_with fail
      refine hK _ _ HU8.out ?_
      clear hK
      refine wpD_nil ?_
      have hwa : IntKind.i64.wrap (fr + L.fin) = fr + L.fin := by rw [IntKind.wrap_i64]; omega
      try rw [hwa]
      go_wp2_with (go_at_call 42; refine halted ?_)
      unfold Halted
      rw [HW8.out]
      have hSw : ∀ k, S k → k < w.heap.size := HI.out.disk.lt
      have HUw7 := Lib.hid ((HU1.out.tr HU6.out).tr HU7.out)
      have hr7 : Rd w7 5 1 (.slice a3 b.length c3) b.length (bvs b) := (Rd.of_own HOWN.out).updNo HU7.out
      refine (walLayLeaves w7 d D S (HI.out.disk.updNo HUw7.out) (fr + L.fin) (by omega) (by omega) L.turn L.said.length k5 k6 (by omega) (by omega) 5 a3 c3 b hr7 hb4 (fun k hk e => by have := own_ge HOWN.out k hk; have := hSw k e; have := HU1.out.size; simp at *; omega) (by omega)).mono ?_
      rintro e9 w9 ⟨rfl, hto⟩
      have HA' : Hid (L.append D b = if (D.lays (fr + L.fin) ((leavesOf L.turn L.said.length b.length b).map Subtype.val)).1 = 0 then
          (0, (D.lays (fr + L.fin) ((leavesOf L.turn L.said.length b.length b).map Subtype.val)).2, { L with said := L.said ++ [b], fin := L.fin + sc })
          else ((D.lays (fr + L.fin) ((leavesOf L.turn L.said.length b.length b).map Subtype.val)).1, (D.lays (fr + L.fin) ((leavesOf L.turn L.said.length b.length b).map Subtype.val)).2, { L with broken := true })) := by
        have := HA.out
        rw [← HFR.out, ← HSC.out] at this
        exact Lib.hid this
      clear HA
      obtain ⟨R, hR⟩ : ∃ R, R = D.lays (fr + L.fin) ((leavesOf L.turn L.said.length b.length b).map Subtype.val) := ⟨_, rfl⟩
      have HA := Lib.hid HA'.out
      clear HA'
      rw [← hR] at HA hto ⊢
      clear hR
      obtain ⟨S9, j1, j2, j3, j4⟩ := hto
      have hne_eb : ¬ S w.heap.size := fun e => Nat.lt_irrefl _ (hSw _ e)
      have hg9 : w9.heap[w.heap.size]? = some (.cells #[.int .i64 0] 38 (0, 0)) := j3.heap ((HU6.out.tr HU7.out).heap HG1.out id) hne_eb
      have q9 := cell_at hg9 0
      have f9 := free_at hg9 0
      simp only [List.getElem?_toArray, List.getElem?_cons_zero] at q9
      have HG9 := Lib.hid hg9
      have J1 := Lib.hid j1
      have J2 := Lib.hid j2
      have J3 := Lib.hid j3
      have J4 := Lib.hid j4
      have hp9 : w9.heap[p]? = some (.cells (walC d L (.slice va L.said.length vc)) 73 (0, 0)) := j3.heap (MB.out w7 HU7.out) HI.out.2.1
      have HP9 := Lib.hid hp9
      clear hg9 j1 j2 j3 j4 hp9 f1 q1 hr7
      by_cases hc : R.1 = 0
      · rw [if_pos hc] at HA
        rw [hc]
        have HC := Lib.hid hc
        clear hc
        go_wp2
        refine NoPanic.normal ?_
        go_wp2
        have hpe : p ≠ w.heap.size := by omega
        refine wp_name ?_
        intro W10 hW10
        have h10 : Upd (OneS w.heap.size) w9 W10 ∧ W10.heap[w.heap.size]? = some (.cells #[.int .i64 0] 38 (0, 0)) := by
          rw [hW10]
          exact ⟨(Upd.refl (OneS w.heap.size) w9).setCell ⟨w.heap.size, 0, none⟩ _ (fun _ => rfl), by rw [heap_set HG9.out 0 _]; rfl⟩
        clear hW10
        have hp10 := h10.1.heap HP9.out hpe
        have H10 := Lib.hid h10
        have HP10 := Lib.hid hp10
        have MK3 : Hid (∀ w', Upd NoS W10 w' → w'.cell? ⟨p, 3, none⟩ = some (.slice va L.said.length vc)) := Lib.hid fun w' hu => cell_at (hu.heap hp10 id) 3
        clear h10 hp10
        refine wp_region_canon (fun w' => Upd NoS W10 w') 19 3 [17, 18] [0, 1, 2, 3, 4, 5, 6, 7, 8, 9, 10, 11, 12, 13, 14, 15, 16, 17, 18] rfl (by kernel_rfl) (by decide) (by kernel_rfl) (by kernel_rfl) (by kernel_rfl) (by kernel_rfl) (by kernel_rfl) ((Upd.refl _ _).drew) ?_
        simp only [List.take_succ_cons, List.take_zero, List.drop_succ_cons, List.drop_zero, pick, List.getElem?_cons_succ, List.getElem?_cons_zero, Nat.reduceBEq, List.contains_cons, List.contains_nil, Bool.or_self, Bool.or_false, Bool.or_true, Bool.true_or, Bool.false_or]
        iterate 17 (refine wpD_quiet ?_ (fun w' hS => ?_) ?_; rotate_left; (· have f3 := MK3.out w' hS; go_simp; (try with_reducible rfl)); (try simp only [Act.put, List.setIfInBounds_toArray, List.set_cons_succ, List.set_cons_zero]))
        obtain ⟨iS, hiS, hzS, hsS, hbS⟩ := info_parts infoS
        refine wpD_loud (fun K hK => ?_)
        refine wp_sliceOne rfl rfl Try.underlying51 hiS hzS hsS (by decide) (by decide) (fillS a3 b.length c3) ?_
        obtain ⟨WA, hWA⟩ : ∃ WA, WA = W10.drew.alloc (.cells #[.slice a3 b.length c3] 35) := ⟨_, rfl⟩
        have eWA : W10.drew.heap.size = W10.heap.size := rfl
        rw [← hWA, eWA]
        have huA : Upd NoS W10 WA := by rw [hWA]; exact (Upd.refl NoS W10).drew.alloc _
        have hgA : WA.heap[W10.heap.size]? = some (.cells #[.slice a3 b.length c3] 35 (0, 0)) := by rw [hWA, ← eWA]; exact heap_new _ _
        clear hWA eWA
        refine hK _ _ huA ?_
        clear hK
        have hw7 := HUw7.out.size
        have hS9 : ∀ k, S9 k → S k ∨ w7.heap.size ≤ k := fun k hk => (J2.out k hk).imp id (fun h => h.1)
        have hw5 : w.heap.size < w7.heap.size := by have := lt_of_heap HG1.out; have := (HU6.out.tr HU7.out).size; omega
        have huw10 : Upd (fun k => S k ∨ k = p) w W10 := (HUw7.out.of_no.trans J3.out (fun _ _ e => .inl e)).trans H10.out.1 (fun k hk e => absurd hk (by rw [show k = w.heap.size from e]; exact Nat.lt_irrefl _))
        obtain ⟨vals, hv1w, hv2w, hv3w⟩ := HVS.out
        have hv1 := (hv1w.upd huw10 (fun k hk e => hv2w k hk e)).updNo huA
        have hs0 := HI.out.ok.s0
        obtain ⟨g, o, rfl⟩ : ∃ g o, va = some ⟨g, o, none⟩ := by
          rcases hv1.shape with ⟨_, h0⟩ | ⟨g, o, c', h1, _⟩
          · omega
          · exact ⟨g, o, by cases h1; rfl⟩
        have hvl : vals.length = L.said.length := by simpa using hv1.1
        have hcapb : Builtin.nextslicecap (L.said.length + 1) L.said.length * iS.bytes ≤ 281474976710656 := by
          exact growslice_fits (by omega) (by rw [hbS]; omega)
        have hrunA := run_append_grow (P := Try.prog) WA 51 51 35 iS (.slice none 0 0) Try.underlying51 hiS hzS ⟨g, o, none⟩ L.said.length L.said.length vals (by rw [hsS, hvl, Nat.mul_one]) hv1.cells ⟨W10.heap.size, 0, none⟩ 1 1 [.slice a3 b.length c3] (by rw [hsS]; rfl)
          (fun j v hj => by
            cases j with
            | zero => cases hj; exact cell_at hgA 0
            | succ j => cases hj) (by omega) (by omega) hcapb
        refine wpD_loud (fun K hK => ?_)
        refine wp_app _ _ _ rfl rfl rfl hrunA ?_
        obtain ⟨cp, hcp⟩ : ∃ cp, cp = grownCap WA (L.said.length + 1) L.said.length 35 := ⟨_, rfl⟩
        have hcple : L.said.length + 1 ≤ cp ∧ cp ≤ maxLen := by
          rw [hcp]
          exact ⟨grownCap_ge _ _ _ _, grownCap_le_maxLen _ _ _ _ (by unfold maxLen; omega)⟩
        rw [← hcp]
        obtain ⟨WB, hWB⟩ : ∃ WB, WB = WA.drew.alloc (.cells (vals.toArray ++ [Value.slice a3 b.length c3].toArray ++ Builtin.zeroCells (Value.slice none 0 0).cells (cp - (L.said.length + 1))) 35) := ⟨_, rfl⟩
        rw [← hWB]
        have huB : Upd NoS WA WB := by rw [hWB]; exact (Upd.refl NoS WA).drew.alloc _
        have hgB : WB.heap[WA.heap.size]? = some (.cells (vals.toArray ++ [Value.slice a3 b.length c3].toArray ++ Builtin.zeroCells (Value.slice none 0 0).cells (cp - (L.said.length + 1))) 35 (0, 0)) := by rw [hWB]; exact heap_new WA.drew _
        clear hWB
        refine hK _ _ (huA.tr huB) ?_
        clear hK
        refine wpD_nil ?_
        have hpB := (huA.tr huB).heap HP10.out id
        have heB := (huA.tr huB).heap H10.out.2 id
        have q0 := cell_at heB 0
        have f0 := free_at heB 0
        have q3 := cell_at hpB 3
        have f3 := free_at hpB 3
        have q4 := cell_at hpB 4
        have f4 := free_at hpB 4
        simp only [walC, List.getElem?_toArray, List.getElem?_cons_zero, List.getElem?_cons_succ] at q0 q3 q4
        have HPB := Lib.hid hpB
        have HEB := Lib.hid heB
        have HGB := Lib.hid hgB
        have HUB := Lib.hid huB
        have HUA := Lib.hid huA
        have HV1 := Lib.hid hv1
        have HV3 := Lib.hid hv3w
        have hne2 : ¬ w.heap.size = p := by omega
        have HGA := Lib.hid hgA
        clear hpB heB hgB huB huA hv1 hv1w hv2w hv3w hrunA hcapb hiS hzS hsS hbS hgA hcp
        go_wp2
        refine NoPanic.normal ?_
        go_wp2
        refine door_name ?_
        intro W12 hW12
        have hset1 := heap_set HPB.out 3 (Value.slice (some ⟨WA.heap.size, 0, none⟩) (L.said.length + 1) cp)
        have hset2 := heap_set hset1 4 (Value.int .i64 (L.fin + sc))
        have hp12 : W12.heap[p]? = some (.cells (walC d { L with said := L.said ++ [b], fin := L.fin + sc } (.slice (some ⟨WA.heap.size, 0, none⟩) (L.said.length + 1) cp)) 73 (0, 0)) := by
          rw [hW12]; exact (heap_set_ne hset2 hpe _).trans rfl
        have hu12 : Upd (fun k => k = w.heap.size ∨ k = p) WB W12 := by
          rw [hW12]
          exact (((Upd.refl (fun k => k = w.heap.size ∨ k = p) WB).setCell ⟨p, 3, none⟩ _ (fun _ => .inr rfl)).setCell ⟨p, 4, none⟩ _ (fun _ => .inr rfl)).setCell ⟨w.heap.size, 0, none⟩ _ (fun _ => .inl rfl)
        have he12 : W12.heap[w.heap.size]? = some (.cells #[.int .i64 0] 38 (0, 0)) := by
          rw [hW12, heap_set (heap_set_ne (heap_set_ne HEB.out (fun e => hpe e.symm) _) (fun e => hpe e.symm) _) 0]; rfl
        clear hW12 hset1 hset2
        refine leaves_cons (f := 52) (args := #[.pointer (some ⟨p, 0, none⟩), .pointer (some ⟨w.heap.size, 0, none⟩)]) (by simp) (by simp [go_sem]) ?_
        refine (walBreaksD .returning W12 p w.heap.size _ 0 hp12 (show 5 < 6 by decide) he12).mono ?_
        rintro r u' W13 ⟨rfl, ⟨⟨v, rfl⟩, hW13⟩⟩
        rw [if_pos rfl] at hW13
        subst hW13
        have hec := cell_at he12 0
        simp only [List.getElem?_toArray, List.getElem?_cons_zero] at hec
        refine ⟨.int .i64 0, by simp [results, Try.results24, go_sem, hec], ?_⟩
        rw [HA.out]
        have hok := HI.out.ok
        have huwB : Upd (fun k => S k ∨ k = p) w WB := huw10.trNo (HUA.out.tr HUB.out)
        have huw12 : Upd (fun k => S k ∨ k = p) w W13 := huwB.trans hu12 (fun k hk e => e.elim (fun e => by omega) .inr)
        have hz1 := huw10.size
        have hz2 := HUA.out.size
        have hzB := lt_of_heap HGB.out
        have hw9 := J3.out.size
        have hw10 := H10.out.1.size
        have hS9w : ∀ k, k < w.heap.size → S9 k → S k := fun k hk e => (hS9 k e).elim id (fun h => by omega)
        have hS9z : ∀ k, S9 k → k < w9.heap.size := J1.out.lt
        have hsc1 : 1 ≤ sc := by rw [HSC.out]; unfold sectorsOf; split <;> (try split) <;> omega
        have hu9B : Upd (fun k => k = w.heap.size ∨ k = p) w9 W13 := (((H10.out.1.mono (fun _ _ e => .inl e)).trNo (HUA.out.tr HUB.out))).tr hu12
        have hdS := HI.out.disk.self
        have hsm : SameMap d w W13 := (sameMap_upd J1.out hu9B (fun e => e.elim (fun e => hne_eb (e ▸ hdS)) (fun e => HI.out.2.1 (e ▸ hdS)))).trans (J4.out.trans (sameMap_upd HI.out.disk HUw7.out id))
        refine ⟨rfl, ⟨S9, ⟨J1.out.upd hu9B (fun k hk e => (hS9 k hk).elim (fun h => e.elim (fun e => hne_eb (e ▸ h)) (fun e => HI.out.2.1 (e ▸ h))) (fun h => by rcases e with e | e <;> omega)),
          fun e => (hS9 p e).elim HI.out.2.1 (fun h => by omega), ?_, _, hp12, vals ++ [.slice a3 b.length c3], ?_, ?_, ?_⟩, fun k hk => (hS9 k hk).imp id (fun h => by omega), huw12⟩, hsm⟩
        · refine ⟨hok.n0, hok.n1, hok.t0, hok.t1, ?_, ?_, ?_, ?_⟩
          · simp
          · have := hok.s1
            simp
            omega
          · show L.fin + sc ≤ L.n
            omega
          · intro l hl
            rcases List.mem_append.1 hl with hl | hl
            · exact hok.each l hl
            · rw [List.mem_singleton.1 hl]; exact hb4
        · rw [show ({ L with said := L.said ++ [b], fin := L.fin + sc } : Wl).said.length = L.said.length + 1 by simp]
          have hWA : ¬ (fun k => k = w.heap.size ∨ k = p) WA.heap.size := by rintro (e | e) <;> omega
          exact ⟨by simp [hvl], .inr ⟨WA.heap.size, 0, cp, _, (0, 0), rfl, hcple.1, hcple.2, hu12.heap HGB.out hWA, by
            rw [List.drop_zero, Array.toList_append, Array.toList_append, List.take_append_of_le_length (by simp [hvl]), List.take_of_length_le (by simp [hvl])]⟩⟩
        · intro k hk e
          obtain rfl : k = WA.heap.size := (Option.some.inj hk).symm
          rcases e with e | e
          · have := hS9z _ e
            omega
          · omega
        · intro i v l hv hl
          by_cases hi : i < L.said.length
          · rw [List.getElem?_append_left (by omega)] at hv
            rw [List.getElem?_append_left hi] at hl
            obtain ⟨h1, h2⟩ := HV3.out i v l hv hl
            exact ⟨h1.upd huw12 (fun k hk e => h2 k hk e), fun k hk e => e.elim (fun e => h2 k hk (.inl (hS9w k (h1.lt k hk) e))) (fun e => h2 k hk (.inr e))⟩
          · rw [List.getElem?_append_right (by omega)] at hv
            rw [List.getElem?_append_right (by omega)] at hl
            rw [hvl] at hv
            obtain hi0 : i - L.said.length = 0 := by
              have := (List.getElem?_eq_some_iff.1 hl).1
              simp at this
              omega
            rw [hi0] at hv hl
            cases hv
            cases hl
            have hr7 : Rd w7 5 1 (.slice a3 b.length c3) b.length (bvs b) := (Rd.of_own HOWN.out).updNo HU7.out
            have hk0 : ∀ k, (Value.slice a3 b.length c3).ownBlock = some k → w.heap.size < k ∧ k < w7.heap.size := fun k hk => ⟨by have := own_ge HOWN.out k hk; have := lt_of_heap HG1.out; simp at *; omega, hr7.lt k hk⟩
            refine ⟨(hr7.upd J3.out (fun k hk e => by have := (hk0 k hk).1; have := hSw k e; omega)).upd hu9B (fun k hk e => by have := (hk0 k hk).1; rcases e with e | e <;> omega), fun k hk e => ?_⟩
            have := hk0 k hk
            rcases e with e | e
            · rcases hS9 k e with h | h
              · have := hSw k h; omega
              · omega
            · omega
      · rw [if_neg hc] at HA
        have hne : (R.1 == 0) = false := by simpa using hc
        have HC := Lib.hid hc
        clear hc
        go_wp2
        refine NoPanic.normal ?_
        go_wp2
        refine door_name ?_
        intro W10 hW10
        have h10 : Upd (OneS w.heap.size) w9 W10 ∧ W10.heap[w.heap.size]? = some (.cells #[.int .i64 R.1] 38 (0, 0)) := by
          rw [hW10]
          exact ⟨((Upd.refl (OneS w.heap.size) w9).setCell ⟨w.heap.size, 0, none⟩ _ (fun _ => rfl)).setCell ⟨w.heap.size, 0, none⟩ _ (fun _ => rfl), by rw [heap_set (heap_set HG9.out 0 _) 0]; rfl⟩
        clear hW10
        have hpe : p ≠ w.heap.size := by omega
        have hp10 := h10.1.heap HP9.out hpe
        refine leaves_cons (f := 52) (args := #[.pointer (some ⟨p, 0, none⟩), .pointer (some ⟨w.heap.size, 0, none⟩)]) (by simp) (by simp [go_sem]) ?_
        refine (walBreaksD .returning W10 p w.heap.size _ R.1 hp10 (show 5 < 6 by decide) h10.2).mono ?_
        rintro r u' W11 ⟨rfl, ⟨⟨v, rfl⟩, hW11⟩⟩
        rw [if_neg HC.out] at hW11
        have hu11 : Upd (fun k => k = w.heap.size ∨ k = p) w9 W11 := by rw [hW11]; exact (h10.1.mono (fun _ _ e => .inl e)).setCell _ _ (fun _ => .inr rfl)
        have hp11 : W11.heap[p]? = some (.cells (walC d { L with broken := true } (.slice va L.said.length vc)) 73 (0, 0)) := by rw [hW11, heap_set hp10 5]; rfl
        have he11 : W11.cell? ⟨w.heap.size, 0, none⟩ = some (.int .i64 R.1) := by rw [hW11]; exact cell_at (heap_set_ne h10.2 (fun e => hpe e.symm) _) 0
        clear hW11 hp10 h10
        refine ⟨.int .i64 R.1, by simp [results, Try.results24, go_sem, he11], ?_⟩
        rw [HA.out]
        have hw7 := HUw7.out.size
        have hS9 : ∀ k, S9 k → S k ∨ w7.heap.size ≤ k := fun k hk => (J2.out k hk).imp id (fun h => h.1)
        have hw5 : w.heap.size < w7.heap.size := by have := lt_of_heap HG1.out; have := (HU6.out.tr HU7.out).size; omega
        have huw : Upd (fun k => S k ∨ k = p) w W11 := (HUw7.out.of_no.trans J3.out (fun _ _ e => .inl e)).trans hu11 (fun k hk e => e.elim (fun e => by omega) .inr)
        have hok := HI.out.ok
        have hdS := HI.out.disk.self
        have hsm : SameMap d w W11 := (sameMap_upd J1.out hu11 (fun e => e.elim (fun e => hne_eb (e ▸ hdS)) (fun e => HI.out.2.1 (e ▸ hdS)))).trans (J4.out.trans (sameMap_upd HI.out.disk HUw7.out id))
        refine ⟨rfl, ⟨S9, ⟨J1.out.upd hu11 (fun k hk e => (hS9 k hk).elim (fun h => e.elim (fun e => hne_eb (e ▸ h)) (fun e => HI.out.2.1 (e ▸ h))) (fun h => by rcases e with e | e <;> omega)), fun e => (hS9 p e).elim HI.out.2.1 (fun h => by omega),
          ⟨hok.n0, hok.n1, hok.t0, hok.t1, hok.s0, hok.s1, hok.f1, hok.each⟩, _, hp11, HVS.out.upd huw (fun k _ e => e) (fun k hk e => e.imp (fun e => (hS9 k e).elim id (fun h => by omega)) id)⟩, fun k hk => (hS9 k hk).imp id (fun h => by omega), huw⟩, hsm⟩
  · have hne : (L.refuses b.length == 0) = false := by simpa using h0
    have HA := hA (L.refuses b.length, D, L) (by unfold Wl.append; rw [if_pos h0])
    obtain ⟨r, hr⟩ : ∃ r, r = L.refuses b.length := ⟨_, rfl⟩
    rw [← hr] at hne HA ⊢
    have g1 := HG1.out
    have q1 := cell_at g1 0
    have f1 := free_at g1 0
    simp only [List.getElem?_toArray, List.getElem?_cons_zero] at q1
    clear h0 hA hr g1
    go_wp2
    have hg2 : (w1.setCell ⟨w.heap.size, 0, none⟩ (.int .i64 r)).cell? ⟨w.heap.size, 0, none⟩ = some (.int .i64 r) := cell_at (heap_set HG1.out 0 _) 0
    refine ⟨.int .i64 r, by simp [results, Try.results24, go_sem, hg2], ?_⟩
    rw [HA.out]
    exact ⟨rfl, WalOn.no HI.out (HU1.out.setCell _ _ (fun e => absurd e (Nat.lt_irrefl _)))⟩
end Go.Proofs.Ytomgdfoahfhijaa
