/- disk: Arm, Crash; what an act keeps. -/
import Derived.Test.YtomgdfoahfhijaaCrs
import Derived.Test.YtomgdfoahfhijaaAll
set_option linter.unusedVariables false
set_option linter.unusedSimpArgs false
namespace Go.Proofs.Ytomgdfoahfhijaa
open Go.RowKit

def Dk.set (D : Dk) (n : Int) : Dk := { D with arms := (decide (0 ≤ n), n) }
def Dk.arm (D : Dk) (n : Int) : Int × Dk := if D.out then (9, D) else (0, D.set n)
theorem IsDisk.puts {w w' : World} {d : Nat} {D D' : Dk} {m : Nat} {v : Value} {S : Nat → Prop} (hS : ∀ k, S k ↔ k = d ∨ k = m ∨ v.ownBlock = some k) (hd : w.heap[d]? = some (.cells (D.cells m v) 102 (0, 0))) (hm : IsMap w m D.firm)
    (hv : w.ownsRow 0 108 65 v D.loose.length (D.loose.flatMap wrote)) (hu : Upd (OneS d) w w') (hd' : w'.heap[d]? = some (.cells (D'.cells m v) 102 (0, 0))) (h1 : D'.firm = D.firm) (h2 : D'.loose = D.loose) (ho : D'.Ok) : DskTo w w' d D' S :=
  ⟨S, IsDisk.put hS hd hm hv hu hd' h1 h2 ho, fun k hk => .inl hk, hu.mono (fun k _ e => by rw [show k = d from e]; exact (hS d).2 (.inl rfl)), sameMap_of hd hd'⟩
set_option maxRecDepth 100000 in
set_option maxHeartbeats 1000000 in
theorem dskCountSet (w : World) (g i : Nat) (n : Int) (cs : Array Value) (t : TypeId) (hg : w.heap[g]? = some (.cells cs t (0, 0))) (hi : i + 1 < cs.size) :
    Calls Try.prog 56 #[.pointer (some ⟨g, i, none⟩), .int .i64 n] w fun e w' => e = .returned (.tuple #[]) ∧ w' = (w.setCell ⟨g, i, none⟩ (.bool (decide (0 ≤ n)))).setCell ⟨g, i + 1, none⟩ (.int .i64 n) := by
  have c0 := cell_at hg i
  have c1 := cell_at hg (i + 1)
  have f0 := free_at hg i
  have f1 := free_at hg (i + 1)
  rw [Array.getElem?_eq_getElem (by omega)] at c0
  rw [Array.getElem?_eq_getElem hi] at c1
  clear hg
  go_enter Try.func56, Try.ntmps56
  go_wp2
  go_end0
  exact ⟨rfl, rfl⟩
set_option maxRecDepth 100000 in
set_option maxHeartbeats 1000000 in
theorem dskArm (w : World) (d : Nat) (D : Dk) (S : Nat → Prop) (h : IsDisk w d D S) (n : Int) (hn1 : -9223372036854775808 ≤ n) (hn2 : n ≤ 9223372036854775807) :
    Calls Try.prog 31 #[.pointer (some ⟨d, 0, none⟩), .int .i64 n] w fun e w' => e = .returned (.int .i64 (D.arm n).1) ∧ DskTo w w' d (D.arm n).2 S := by
  have HI := Lib.hid h
  unfold Dk.arm
  by_cases ho : D.out = true
  · rw [if_pos ho]
    have HO := Lib.hid (show (if D.out then (9 : Int) else 0) = 9 by rw [ho]; rfl)
    clear h ho
    go_enter Try.func31, Try.ntmps31
    go_wp2_with (go_at_call 55; refine (dskPowered _ d D S HI.out).mono ?_; rintro e w' ⟨rfl, hw⟩; have hw := hw.symm; subst hw; rw [HO.out])
    go_ret
    exact ⟨rfl, S, HI.out, fun k hk => .inl hk, Upd.refl _ _, rfl⟩
  · rw [if_neg ho]
    have HO := Lib.hid (show (if D.out then (9 : Int) else 0) = 0 by rw [if_neg ho])
    obtain ⟨m, v, hS, hd, hm, hv, hok⟩ := h
    have HD := Lib.hid (And.intro hS (And.intro hd (And.intro hm (And.intro hv hok))))
    clear ho hS hd hm hv hok
    go_enter Try.func31, Try.ntmps31
    go_wp2_with (first
      | (go_at_call 55; refine (dskPowered _ d D S HI.out).mono ?_; rintro e w' ⟨rfl, hw⟩; have hw := hw.symm; subst hw; rw [HO.out])
      | (go_at_call 56; refine halted ?_))
    unfold Halted
    obtain ⟨hS, hd, hm, hv, hok⟩ := HD.out
    refine (dskCountSet w d 4 n _ _ hd (show 4 + 1 < 9 by decide)).mono ?_
    rintro e w1 ⟨rfl, hw1⟩
    have hu1 : Upd (OneS d) w w1 := by rw [hw1]; exact ((Upd.refl (OneS d) w).setCell ⟨d, 4, none⟩ _ (fun _ => rfl)).setCell ⟨d, 5, none⟩ _ (fun _ => rfl)
    have hd1 : w1.heap[d]? = some (.cells ((D.set n).cells m v) 102 (0, 0)) := by rw [hw1, heap_set (heap_set hd 4 _) 5 _]; rfl
    have HF := Lib.hid (IsDisk.puts (D' := D.set n) hS hd hm hv hu1 hd1 rfl rfl ⟨hok.size1, hok.size2, hok.firm, hok.loose, ⟨fun e => by simpa [Dk.set] using e, hn1, hn2⟩, hok.fails, hok.ops⟩)
    clear hw1 hu1 hd1 hS hd hm hv hok
    go_wp2
    go_ret
    exact ⟨rfl, HF.out⟩
def keepB (keep : List Bool) (i : Nat) : Bool := keep.getD i false
set_option maxRecDepth 100000 in
set_option maxHeartbeats 1000000 in
theorem dskCrash1 (w : World) (b0 : Nat) (kv : Value) (keep : List Bool) (hb : w.heap[b0]? = some (.cells #[kv] 31 (0, 0))) (hk : Sle w 1 kv (keep.map fun b => [.bool b])) (i : Nat) (hi : i < 1000000000) :
    Calls Try.prog 60 #[.int .i64 (i : Int), .pointer (some ⟨b0, 0, none⟩)] w fun e w' => e = .returned (.bool (keepB keep i)) ∧ Upd NoS w w' := by
  obtain ⟨a, c, rfl, hc1, hc2⟩ := hk.shape
  rw [List.length_map] at hb hc1 hk
  unfold maxLen at hc2
  have q := cell_at hb 0
  simp only [List.getElem?_toArray, List.getElem?_cons_zero] at q
  have HK := Lib.hid hk
  clear hb hk
  by_cases hlt : i < keep.length
  · obtain ⟨x, hx⟩ : ∃ x, keep[i]? = some x := ⟨_, List.getElem?_eq_getElem hlt⟩
    obtain ⟨g, o, rfl, h1⟩ := HK.out.at (i := i) (l := [.bool x]) (by rw [List.getElem?_map, hx]; rfl)
    have q1 := h1 0 _ rfl
    rw [Nat.mul_one, Nat.add_zero] at q1
    have HX := Lib.hid (show keepB keep i = x by unfold keepB; rw [List.getD_eq_getElem?_getD, hx]; rfl)
    clear hx h1
    go_enter Try.func60, Try.ntmps60
    go_wp2
    go_ret
    exact ⟨by rw [HX.out]; rfl, Upd.refl _ _⟩
  · have HX := Lib.hid (show keepB keep i = false by unfold keepB; rw [List.getD_eq_getElem?_getD, List.getElem?_eq_none (by omega)]; rfl)
    go_enter Try.func60, Try.ntmps60
    go_wp2
    go_ret
    exact ⟨by rw [HX.out]; rfl, Upd.refl _ _⟩
set_option maxRecDepth 100000 in
set_option maxHeartbeats 1000000 in
theorem dskCrash (w : World) (d : Nat) (D : Dk) (S : Nat → Prop) (h : IsDisk w d D S) (kv : Value) (keep : List Bool) (hk : ∀ W, Upd S w W → Sle W 1 kv (keep.map fun b => [.bool b])) (hl : D.loose.length ≤ 900000000) :
    Calls Try.prog 35 #[.pointer (some ⟨d, 0, none⟩), kv] w fun e w' => e = .returned (.int .i64 0) ∧ DskTo w w' d (D.crash (keepB keep)) S := by
  have HI := Lib.hid h
  have HK := Lib.hid hk
  obtain ⟨a, c, rfl, hc1, hc2⟩ := (hk w (Upd.refl _ _)).shape
  rw [List.length_map] at HK hc1 ⊢
  clear h hk
  go_enter Try.func35, Try.ntmps35
  go_wp2_with (go_at_call 59; refine halted ?_)
  unfold Halted
  refine calls_name ?_
  intro W0 hW0
  have hu0 : Upd NoS w W0 := by rw [hW0]; exact (Upd.refl NoS w).alloc _
  have hb0 : W0.heap[w.heap.size]? = some (.cells #[.slice a keep.length c] 31 (0, 0)) := by rw [hW0]; exact heap_new _ _
  clear hW0
  have hSl := HI.out.lt
  have hu0S : Upd S w W0 := hu0.of_no
  have hst : ∀ i : Nat, i < D.loose.length → ∀ w', Upd S W0 w' → Calls Try.prog 60 (#[.int .i64 (i : Int)] ++ #[.pointer (some ⟨w.heap.size, 0, none⟩)]) w' fun e w'' => e = .returned (.bool (keepB keep i)) ∧ Upd NoS w' w'' := fun i hi w' hu => by
    have h1 := dskCrash1 w' w.heap.size (.slice a keep.length c) keep (hu.heap hb0 (fun e => Nat.lt_irrefl _ (hSl _ e))) (HK.out w' (hu0S.tr hu)) i (by omega)
    exact h1
  refine (dskSettle W0 d D S (HI.out.updNo hu0) _ _ (keepB keep) (by kernel_rfl) (by omega) (fun i hi w' hu => hst i hi w' hu)).mono ?_
  rintro e1 w1 ⟨rfl, hto⟩
  have hto2 : DskTo w w1 d (D.firmed (keepB keep)) S := DskTo.of hto hu0 (sameMap_upd HI.out hu0 id)
  clear hto hb0 hSl
  obtain ⟨S1, h1, hS1, hu1, hsm1⟩ := hto2
  obtain ⟨m, v, hS, hd, hm, hv, hok⟩ := h1
  have HD := Lib.hid (And.intro hS (And.intro hd (And.intro hm (And.intro hv (And.intro hok (And.intro hS1 (And.intro hu1 hsm1)))))))
  have c3 := cell_at hd 3
  have c4 := cell_at hd 4
  have c5 := cell_at hd 5
  have c6 := cell_at hd 6
  have c7 := cell_at hd 7
  have f3 := free_at hd 3
  have f4 := free_at hd 4
  have f5 := free_at hd 5
  have f6 := free_at hd 6
  have f7 := free_at hd 7
  simp only [Dk.cells, List.getElem?_toArray, List.getElem?_cons_zero, List.getElem?_cons_succ] at c3 c4 c5 c6 c7
  clear hS hd hm hv hok hS1 hu1 hsm1
  go_wp2
  go_ret
  obtain ⟨hS, hd, hm, hv, hok, hS1, hu1, hsm1⟩ := HD.out
  have hset := heap_set (heap_set (heap_set (heap_set (heap_set hd 3 (.bool false)) 4 (.bool false)) 5 (.int .i64 0)) 6 (.bool false)) 7 (.int .i64 0)
  have hu2 : Upd (OneS d) w1 (((((w1.setCell ⟨d, 3, none⟩ (.bool false)).setCell ⟨d, 4, none⟩ (.bool false)).setCell ⟨d, 5, none⟩ (.int .i64 0)).setCell ⟨d, 6, none⟩ (.bool false)).setCell ⟨d, 7, none⟩ (.int .i64 0)) :=
    (((((Upd.refl (OneS d) w1).setCell ⟨d, 3, none⟩ _ (fun _ => rfl)).setCell ⟨d, 4, none⟩ _ (fun _ => rfl)).setCell ⟨d, 5, none⟩ _ (fun _ => rfl)).setCell ⟨d, 6, none⟩ _ (fun _ => rfl)).setCell ⟨d, 7, none⟩ _ (fun _ => rfl)
  refine ⟨rfl, DskTo.step HI.out hS1 hu1 hsm1 (IsDisk.puts (D := D.firmed (keepB keep)) (D' := D.crash (keepB keep)) hS hd hm hv hu2 (hset.trans rfl) rfl rfl ⟨hok.size1, hok.size2, hok.firm, hok.loose, ?_, ?_, hok.ops⟩)⟩
  · exact ⟨(fun e => by cases e), (show (-9223372036854775808 : Int) ≤ 0 by decide), (show (0 : Int) ≤ 9223372036854775807 by decide)⟩
  · exact ⟨(fun e => by cases e), (show (-9223372036854775808 : Int) ≤ 0 by decide), (show (0 : Int) ≤ 9223372036854775807 by decide)⟩
theorem infoBo : (Try.prog.info? 4).map (fun i => (i.zero, i.size, i.bytes)) = some (some (.bool false), 1, 1) := by kernel_rfl
theorem bls_one (l : List Bool) : ∀ u ∈ bls l, u.oneCell' = true := by
  intro u hu
  obtain ⟨b, _, rfl⟩ := List.mem_map.1 hu
  rfl
set_option maxRecDepth 100000 in
set_option maxHeartbeats 1000000 in
/-- What an act keeps: a row of its own. -/
theorem actKept (w : World) (x : Ac) (hx : x.Reads w) : Calls Try.prog 36 #[x.val] w fun e w' =>
    ∃ a c, e = .returned (.slice a (x.keep.take 100).length c) ∧ w'.ownsRow w.heap.size 4 1 (.slice a (x.keep.take 100).length c) (x.keep.take 100).length (bls (x.keep.take 100)) ∧ Upd NoS w w' := by
  obtain ⟨k, n, f, keep, ka, kc⟩ := x
  unfold Ac.Reads Ac.kv at hx
  unfold Ac.val Ac.kv actV
  simp only at hx ⊢
  obtain ⟨i0, hi, hz0, hz1, hz2⟩ := info_parts infoBo
  have HI := Lib.hid (And.intro hi (And.intro hz0 (And.intro hz1 hz2)))
  clear hi hz0 hz1 hz2
  cases ka with
  | none =>
    obtain ⟨h1, h2, h3⟩ := hx.nil
    obtain rfl : keep = [] := by cases keep with | nil => rfl | cons b l => simp at h1
    subst h3
    clear hx h1 h2
    simp only [List.length_nil, List.take_nil]
    go_enter Try.func36, Try.ntmps36
    go_wp2_with (at_builtin; refine halted ?_)
    unfold Halted
    obtain ⟨hi, hz0, hz1, hz2⟩ := HI.out
    have hown := own_empty (w.alloc (.cells #[.int .i64 k, .int .i64 n, .int .u8 (f.toNat : Int), .slice none 0 0] 33)) 4 1
    rw [World.size_alloc] at hown
    have hrun := run_append_owned_none (P := Try.prog) (w := (w.alloc (.cells #[.int .i64 k, .int .i64 n, .int .u8 (f.toNat : Int), .slice none 0 0] 33)).alloc (.cells #[] 4)) _ 31 31 4 i0 1 Try.underlying31 hi _ 0 [] hown
    have HO := Lib.hid (own_from (base' := w.heap.size) hown (by omega))
    refine wpList_app rfl _ _ _ rfl rfl rfl hrun ?_
    clear hown hrun hi hz0 hz1 hz2
    go_wp2
    go_ret
    exact ⟨_, _, rfl, HO.out, ((Upd.refl NoS w).alloc _).alloc _⟩
  | some ad =>
    obtain ⟨a0, c0, hv0, hc1, hc2⟩ := hx.shape
    rw [List.length_map] at hv0 hc1
    obtain rfl : kc = c0 := by injection hv0
    unfold maxLen at hc2
    have HX := Lib.hid hx
    clear hx hv0
    obtain ⟨W2, hW2⟩ : ∃ W2, W2 = (w.alloc (.cells #[.int .i64 k, .int .i64 n, .int .u8 (f.toNat : Int), .slice (some ad) keep.length kc] 33)).alloc (.cells #[] 4) := ⟨_, rfl⟩
    have hu2 : Upd NoS w W2 := by rw [hW2]; exact ((Upd.refl NoS w).alloc _).alloc _
    have hown := own_empty (w.alloc (.cells #[.int .i64 k, .int .i64 n, .int .u8 (f.toNat : Int), .slice (some ad) keep.length kc] 33)) 4 1
    rw [World.size_alloc, ← hW2] at hown
    have hz2 : w.heap.size + 1 < W2.heap.size := by rw [hW2]; simp
    have hcells : ∀ (j : Nat) (u : Value), (bls (keep.take 100))[j]? = some u → W2.cell? (ad.add j) = some u := fun j u hj => by
      unfold bls at hj
      rw [List.getElem?_map, List.getElem?_take] at hj
      split at hj
      · obtain ⟨b, hb, rfl⟩ := Option.map_eq_some_iff.1 hj
        obtain ⟨g, o, hg, h1⟩ := (HX.out.upd hu2).at (i := j) (l := [.bool b]) (by rw [List.getElem?_map, hb]; rfl)
        obtain rfl : ad = ⟨g, o, none⟩ := Option.some.inj hg
        have := h1 0 _ rfl
        rwa [Nat.mul_one, Nat.add_zero, ← addr_add] at this
      · cases hj
    obtain ⟨hi, hz0, hz1, hz2'⟩ := HI.out
    obtain ⟨v3, w3, hrun, hown3, hgr3, _⟩ := run_append_own (P := Try.prog) W2 (w.heap.size + 1) 31 31 4 i0 (.bool false) 1 1 Try.underlying31 hi hz0 hz1 hz2' rfl (by decide) _ 0 [] hown ad (keep.take 100).length kc (bls (keep.take 100)) (by simp [bls]) hcells (bls_one _)
      (by rw [List.length_take]; unfold maxLen; omega) (by rw [List.length_take]; omega) (by omega)
    rw [Nat.zero_add, List.nil_append] at hown3
    have hu3 : Upd NoS w w3 := hu2.grown hgr3 (fun j hj hlt => by cases hj; exact absurd hlt (show ¬ w.heap.size + 1 < w.heap.size by omega))
    obtain ⟨a3, c3, rfl⟩ := own_shape hown3
    have HO := Lib.hid (own_from (base' := w.heap.size) hown3 (by omega))
    have HU := Lib.hid hu3
    have HRUN := Lib.hid hrun
    have HW2 := Lib.hid hW2
    clear hW2 hu2 hown hz2 hcells hi hz0 hz1 hz2' hrun hown3 hgr3 hu3
    by_cases hle : keep.length ≤ 100
    · have hM : (keep.take 100).length = keep.length := by rw [List.length_take]; omega
      rw [hM] at HRUN HO ⊢
      clear hM
      have hle' : ¬ (100 : Int) < keep.length := by omega
      go_enter Try.func36, Try.ntmps36
      go_wp2_with (at_builtin; refine halted ?_)
      unfold Halted
      rw [← HW2.out]
      refine wpList_app rfl _ _ _ rfl rfl rfl HRUN.out ?_
      go_wp2
      go_ret
      exact ⟨_, _, rfl, HO.out, HU.out⟩
    · have hM : (keep.take 100).length = 100 := by rw [List.length_take]; omega
      rw [hM] at HRUN HO ⊢
      clear hM
      have hle' : (100 : Int) < keep.length := by omega
      go_enter Try.func36, Try.ntmps36
      go_wp2_with (at_builtin; refine halted ?_)
      unfold Halted
      rw [← HW2.out]
      refine wpList_app rfl _ _ _ rfl rfl rfl HRUN.out ?_
      go_wp2
      go_ret
      exact ⟨_, _, rfl, HO.out, HU.out⟩
end Go.Proofs.Ytomgdfoahfhijaa
