/- wal: counts. -/
import Derived.Test.YtomgdfoahfhijaaWbb
set_option linter.unusedVariables false
set_option linter.unusedSimpArgs false
namespace Go.Proofs.Ytomgdfoahfhijaa
open Go.RowKit

/-- What a title sector says of itself. -/
def titleN (s : List UInt8) : Int := beN ((s.drop 4).take 4)
def titleT (s : List UInt8) : Int := beN (((s.drop 4).drop 4).take 4)
def newer (t : Int) : Option (Int × Int) → Bool
  | none => true
  | some b => decide (b.2 < t)
def titleAt (size k : Int) (s : List UInt8) (best : Option (Int × Int)) : Option (Int × Int) :=
  if mayB size (titleN s) && (titleT s % 2 == k) && (s == titleOf (titleT s) (titleN s)) && newer (titleT s) best then some (titleN s, titleT s) else best
def Dk.count1 (D : Dk) (k : Int) (best : Option (Int × Int)) : Int × Option (Int × Int) × Dk :=
  if (D.read k).2.1 = 0 then (0, titleAt (D.read k).2.2.size k (D.read k).1 best, (D.read k).2.2) else ((D.read k).2.1, none, (D.read k).2.2)
def Dk.counts (D : Dk) : Int × Option (Int × Int) × Dk :=
  if (D.count1 0 none).1 = 0 then
    (if ((D.count1 0 none).2.2.count1 1 (D.count1 0 none).2.1).1 = 0 then
      (match ((D.count1 0 none).2.2.count1 1 (D.count1 0 none).2.1).2.1 with
        | none => (140, none, ((D.count1 0 none).2.2.count1 1 (D.count1 0 none).2.1).2.2)
        | some b => (0, some b, ((D.count1 0 none).2.2.count1 1 (D.count1 0 none).2.1).2.2))
      else (D.count1 0 none).2.2.count1 1 (D.count1 0 none).2.1)
  else D.count1 0 none
def bestC (d : Nat) : Option (Int × Int) → Array Value
  | none => #[.pointer none, .int .i64 0, .int .u32 0]
  | some b => bookC d b.1 b.2
theorem one_best (d : Nat) (b : Option (Int × Int)) : ∀ v ∈ (bestC d b).toList, v.oneCell' = true := by
  cases b with
  | none =>
    intro v hv
    simp only [bestC, List.mem_cons, List.not_mem_nil, or_false] at hv
    rcases hv with rfl | rfl | rfl <;> rfl
  | some b => exact one_book d b.1 b.2
theorem size_best (d : Nat) (b : Option (Int × Int)) : (bestC d b).size = 3 := by cases b <;> rfl
theorem results_row_tmp {P : Program} {fn : Func} {p u : Tmp} {ty : TypeId} (h : fn.results = #[.cell p ty, .tmp u]) (tmps : Array Value) (w : World) (g : Nat) (t : TypeId) (cs : Array Value) (fr : Nat × Nat) (d : TypeDesc) {v : Value}
    (hp : tmps.getD p undef = .pointer (some ⟨g, 0, none⟩)) (hg : w.heap[g]? = some (.cells cs t fr)) (hu : P.underlying ty = some d) (hd : (match d with | .struct _ | .array _ _ => true | _ => false) = true) (hi : (P.info? ty).map (·.size) = some cs.size) (hv : tmps.getD u undef = v) :
    (results fn tmps).run P w = .ok (.tuple #[.agg cs, v]) w := by
  have hp' : tmps[p]?.getD undef = .pointer (some ⟨g, 0, none⟩) := by simpa using hp
  have hv' : tmps[u]?.getD undef = v := by simpa using hv
  simp [results, h, hp', hv', asAddr, run_loadVar_row w g t ty cs fr d hg hu hd hi]
def DskIn (w w' : World) (d : Nat) (D : Dk) (S : Nat → Prop) : Prop := ∃ S', IsDisk w' d D S' ∧ (∀ k, S' k → S k ∨ w.heap.size ≤ k) ∧ Upd S w w'
theorem DskTo.in {w w' : World} {d : Nat} {D : Dk} {S : Nat → Prop} (h : DskTo w w' d D S) : DskIn w w' d D S := by
  obtain ⟨S', h1, h2, h3, _⟩ := h
  exact ⟨S', h1, fun k hk => (h2 k hk).imp id (fun h => h.1), h3⟩
theorem Dk.read_loose (D : Dk) (k : Int) : (D.read k).2.2.loose = D.loose := by
  obtain ⟨h, _⟩ := Dk.ask_loose D k false
  unfold Dk.read
  split <;> simp [Dk.op, h]
theorem length_read {D : Dk} (h : D.Ok) (k : Int) : (D.read k).1.length = 64 := by
  unfold Dk.read
  split
  · exact length_holds (Dk.ask_ok h k false) k
  · simp
theorem titleN_bounds {s : List UInt8} (hs : s.length = 64) : 0 ≤ titleN s ∧ titleN s < 4294967296 := by
  unfold titleN
  have := beN_lt ((s.drop 4).take 4)
  have h : ((s.drop 4).take 4).length = 4 := by simp; omega
  rw [h] at this
  omega
theorem titleT_bounds {s : List UInt8} (hs : s.length = 64) : 0 ≤ titleT s ∧ titleT s < 4294967296 := by
  unfold titleT
  have := beN_lt (((s.drop 4).drop 4).take 4)
  have h : (((s.drop 4).drop 4).take 4).length = 4 := by simp; omega
  rw [h] at this
  omega
/-- Between two rounds of counts. -/
def CtI (W0 : World) (d m n : Nat) (D : Dk) (S : Nat → Prop) (best : Option (Int × Int)) (Dc : Dk) (W : World) : Prop :=
  ∃ S', IsDisk W d Dc S' ∧ (∀ k, S' k → S k ∨ n + 2 ≤ k) ∧ Upd (fun k => S k ∨ k = n + 1) W0 W ∧ W.heap[n + 1]? = some (.cells (bestC d best) 71 (0, 0)) ∧ W.cell? ⟨d, 1, none⟩ = some (.map (some m)) ∧ Dc.loose = D.loose
def CtC (D : Dk) (k : Nat) (best : Option (Int × Int)) (Dc : Dk) : Prop :=
  (k = 0 ∧ best = none ∧ Dc = D) ∨ (k = 1 ∧ D.count1 0 none = (0, best, Dc)) ∨ (k = 2 ∧ ∃ b1 D1, D.count1 0 none = (0, b1, D1) ∧ D1.count1 1 b1 = (0, best, Dc))
theorem CtC.err {D : Dk} {k : Nat} {best : Option (Int × Int)} {Dc : Dk} (h : CtC D k best Dc) (hk : k < 2) (he : (Dc.read k).2.1 ≠ 0) : D.counts = ((Dc.read k).2.1, none, (Dc.read k).2.2) := by
  rcases h with ⟨rfl, rfl, rfl⟩ | ⟨rfl, h1⟩ | ⟨rfl, _⟩
  · replace he : (Dc.read 0).2.1 ≠ 0 := he
    change Dc.counts = ((Dc.read 0).2.1, none, (Dc.read 0).2.2)
    have : Dc.count1 0 none = ((Dc.read 0).2.1, none, (Dc.read 0).2.2) := by unfold Dk.count1; rw [if_neg he]
    unfold Dk.counts
    rw [this]
    simp only
    rw [if_neg he]
  · replace he : (Dc.read 1).2.1 ≠ 0 := he
    change D.counts = ((Dc.read 1).2.1, none, (Dc.read 1).2.2)
    have : Dc.count1 1 best = ((Dc.read 1).2.1, none, (Dc.read 1).2.2) := by unfold Dk.count1; rw [if_neg he]
    unfold Dk.counts
    rw [h1]
    simp only
    rw [this, if_pos trivial]
    simp only
    rw [if_neg he]
  · omega
theorem CtC.step {D : Dk} {k : Nat} {best : Option (Int × Int)} {Dc : Dk} (h : CtC D k best Dc) (hk : k < 2) (he : (Dc.read k).2.1 = 0) : CtC D (k + 1) (titleAt (Dc.read k).2.2.size k (Dc.read k).1 best) (Dc.read k).2.2 := by
  have e : Dc.count1 k best = (0, titleAt (Dc.read k).2.2.size k (Dc.read k).1 best, (Dc.read k).2.2) := by unfold Dk.count1; rw [if_pos he]
  rcases h with ⟨rfl, rfl, rfl⟩ | ⟨rfl, h1⟩ | ⟨rfl, _⟩
  · exact .inr (.inl ⟨rfl, e⟩)
  · exact .inr (.inr ⟨rfl, _, _, h1, e⟩)
  · omega
def ctEnd (Dc : Dk) : Option (Int × Int) → Int × Option (Int × Int) × Dk
  | none => (140, none, Dc)
  | some b => (0, some b, Dc)
theorem CtC.done {D : Dk} {best : Option (Int × Int)} {Dc : Dk} (h : CtC D 2 best Dc) : D.counts = ctEnd Dc best := by
  rcases h with ⟨h, _⟩ | ⟨h, _⟩ | ⟨_, b1, D1, h1, h2⟩
  · cases h
  · cases h
  · unfold Dk.counts
    rw [h1]
    simp only
    rw [h2, if_pos trivial]
    simp only
    rw [if_pos trivial]
    cases best <;> rfl
set_option maxRecDepth 100000 in
set_option maxHeartbeats 4000000 in
theorem walCounts (w : World) (d : Nat) (D : Dk) (S : Nat → Prop) (h : IsDisk w d D S) (hlo : D.loose.length ≤ 1000000000) :
    Calls Try.prog 45 #[.pointer (some ⟨d, 0, none⟩)] w fun e w' => e = .returned (.tuple #[.agg (bestC d D.counts.2.1), .int .i64 D.counts.1]) ∧ DskIn w w' d D.counts.2.2 S := by
  have HI := Lib.hid h
  clear h
  go_enter Try.func45, Try.ntmps45
  go_wp2
  refine wp_name ?_
  intro W0 hW0
  obtain ⟨n, hn⟩ : ∃ n, n = w.heap.size := ⟨_, rfl⟩
  have hu0 : Upd NoS w W0 := by rw [hW0]; exact ((Upd.refl NoS w).alloc _).alloc _
  have hz0 : W0.heap.size = n + 2 := by rw [hW0, hn]; simp
  have hg2 : W0.heap[n]? = some (.cells (bestC d none) 71 (0, 0)) := by rw [hW0, hn]; exact heap_old (heap_new _ _)
  have hg4 : W0.heap[n + 1]? = some (.cells (bestC d none) 71 (0, 0)) := by rw [hW0, hn]; exact heap_new' (by simp)
  rw [← hn]
  have HN := Lib.hid hn
  clear hW0 hn
  have hSl : ∀ k, S k → k < n := fun k hk => by have := HI.out.lt k hk; rw [HN.out]; exact this
  have I0 := Lib.hid (HI.out.updNo hu0)
  obtain ⟨m, hSm, hmc⟩ : ∃ m, S m ∧ W0.cell? ⟨d, 1, none⟩ = some (.map (some m)) := by
    obtain ⟨m, v, hS, hd, _⟩ := I0.out
    exact ⟨m, (hS m).2 (.inr (.inl rfl)), cell_at hd 1⟩
  have HU0 := Lib.hid hu0
  have HG2 := Lib.hid hg2
  have HMC := Lib.hid hmc
  have hstart : CtI W0 d m n D S none D W0 := ⟨S, I0.out, fun k hk => .inl hk, Upd.refl _ _, hg4, hmc, rfl⟩
  clear hu0 hg2 hg4 hmc
  go_loopw [11] (fun kv wr => ∃ (k : Nat) (best : Option (Int × Int)) (Dc : Dk), k ≤ 2 ∧ kv = .int .i64 k ∧ CtC D k best Dc ∧ CtI W0 d m n D S best Dc wr) (fun kv _ => 2 - (intOf kv).toNat)
  case atStart => exact ⟨0, none, D, by omega, rfl, .inl ⟨rfl, rfl, rfl⟩, hstart⟩
  case round =>
    clear hstart
    obtain ⟨k, best, Dc, hk, rfl, hC, S1, i1, i2, i3, i4, i5, i6⟩ := hrel
    have HC := Lib.hid hC
    have I1 := Lib.hid i1
    have I2 := Lib.hid i2
    have I3 := Lib.hid i3
    have I4 := Lib.hid i4
    have I5 := Lib.hid i5
    clear hC i1 i2 i3 i4 i5
    by_cases hk2 : k < 2
    · go_wp2_with (go_at_call 46; refine halted ?_)
      unfold Halted
      refine (dskRead wr d Dc S1 I1.out k (by rw [i6]; exact hlo)).mono ?_
      rintro e w1 ⟨rfl, hto⟩
      obtain ⟨S2, j1, j2, j3, j4⟩ := hto
      have h64 := length_read I1.out.ok k
      have hlo2 := (Dk.read_loose Dc k).trans i6
      have HCE : Hid ((Dc.read k).2.1 ≠ 0 → D.counts = ((Dc.read k).2.1, none, (Dc.read k).2.2)) := Lib.hid (HC.out.err hk2)
      have HCS : Hid ((Dc.read k).2.1 = 0 → CtC D (k + 1) (titleAt (Dc.read k).2.2.size k (Dc.read k).1 best) (Dc.read k).2.2) := Lib.hid (HC.out.step hk2)
      obtain ⟨s, hs⟩ : ∃ s, s = (Dc.read k).1 := ⟨_, rfl⟩
      obtain ⟨er, her⟩ : ∃ er, er = (Dc.read k).2.1 := ⟨_, rfl⟩
      obtain ⟨D2, hD2⟩ : ∃ D2, D2 = (Dc.read k).2.2 := ⟨_, rfl⟩
      rw [← hs, ← her, ← hD2] at HCS
      rw [← her, ← hD2] at HCE
      rw [← hD2] at j1 hlo2
      rw [← hs] at h64
      rw [← hs, ← her]
      clear hs her hD2
      have J1 := Lib.hid j1
      have J2 := Lib.hid j2
      have J3 := Lib.hid j3
      have J4 := Lib.hid j4
      clear j1 j2 j3 j4
      go_wp2_with (refine wpList_store0 (heap_new _ _) sizeBlock (by simp [h64]) (by rfl) (bvs_one s) rfl (x := .tmp 6) (y := .tmp 18) rfl rfl rfl ?_; intro w3 hg3 hu3 hs3; refine halted ?_)
      unfold Halted
      have hu13 : Upd NoS w1 w3 := ((Upd.refl NoS w1).alloc _).trans hu3 (fun k hk e => absurd hk (by rw [show k = w1.heap.size from e]; exact Nat.lt_irrefl _))
      have hz1 := J3.out.size
      have hz2 := I3.out.size
      have hS2 : ∀ k, S2 k → S k ∨ n + 2 ≤ k := fun k hk => (J2.out k hk).elim (I2.out k) (fun h => .inr (by have := h.1; omega))
      have hu03 : Upd (fun k => S k ∨ k = n + 1) W0 w3 := (I3.out.trans J3.out (fun k hk e => (I2.out k e).elim .inl (fun h => by omega))).trNo hu13
      have hI3 := J1.out.updNo hu13
      have hn1S : ¬ S1 (n + 1) := fun e => (I2.out _ e).elim (fun h => by have := hSl _ h; omega) (fun h => by omega)
      have hg43 : w3.heap[n + 1]? = some (.cells (bestC d best) 71 (0, 0)) := hu13.heap (J3.out.heap I4.out hn1S) id
      have hm3 : w3.cell? ⟨d, 1, none⟩ = some (.map (some m)) := (sameMap_upd J1.out hu13 id).trans (J4.out.trans I5.out)
      have hg23 : w3.heap[n]? = some (.cells (bestC d none) 71 (0, 0)) := hu03.heap HG2.out (fun e => e.elim (fun h => by have := hSl _ h; omega) (fun h => by omega))
      have Z3 : Hid (w3.heap[w1.heap.size]? = some (.cells (bvs s).toArray 80 (0, 0))) := Lib.hid hg3
      have HS2 := Lib.hid hS2
      have HU03 := Lib.hid hu03
      have HI3 := Lib.hid hI3
      have HG43 := Lib.hid hg43
      have HM3 := Lib.hid hm3
      have HG23 := Lib.hid hg23
      clear hg3 hu3 hs3 hu13 hS2 hu03 hI3 hg43 hm3 hg23
      by_cases he : er = 0
      · subst he
        have HCE2 := Lib.hid (HCS.out rfl)
        clear HCE HCS
        go_wp2_with (go_at_call 68; refine halted ?_)
        unfold Halted
        have h60 : (s.drop 4).length = 60 := by simp [h64]
        refine (octRead w3 80 (.slice (some ⟨w1.heap.size, 4, none⟩) 60 60) (s.drop 4) (by
          rw [h60]
          refine ⟨by simp [h64], .inr ⟨w1.heap.size, 4, 60, _, (0, 0), rfl, Nat.le_refl _, by unfold maxLen; decide, Z3.out, ?_⟩⟩
          rw [show (bvs s).toArray.toList.drop 4 = bvs (s.drop 4) by simp [bvs, List.map_drop], List.take_of_length_le (by simp [h64])]) (by rw [h60]; decide)).mono ?_
        rintro e4 w4 ⟨r, rfl, hr1, hr2, hu4⟩
        have R4 := Lib.hid hr2
        have U4 := Lib.hid hu4
        clear hr2 hu4
        go_wp2_with (go_at_call 69; refine halted ?_)
        unfold Halted
        refine (octU32 w4 r (s.drop 4) R4.out (by rw [h60]; decide) (by rw [h60]; decide)).mono ?_
        rintro e5 w5 ⟨rfl, hr5, hu5⟩
        have R5 := Lib.hid hr5
        have U5 := Lib.hid hu5
        clear hr5 hu5
        have h56 : ((s.drop 4).drop 4).length = 56 := by simp [h64]
        obtain ⟨hN0, hN1⟩ := titleN_bounds h64
        obtain ⟨hT0, hT1⟩ := titleT_bounds h64
        rw [show ((beN ((s.drop 4).take 4) : Nat) : Int) = titleN s from rfl]
        go_wp2_with (go_at_call 69; refine halted ?_)
        unfold Halted
        refine (octU32 w5 r _ R5.out (by rw [h56]; decide) (by rw [h56]; decide)).mono ?_
        rintro e6 w6 ⟨rfl, _, hu6⟩
        rw [show ((beN (((s.drop 4).drop 4).take 4) : Nat) : Int) = titleT s from rfl]
        have hu36 : Upd NoS w3 w6 := (U4.out.trans U5.out (fun k hk e => by rw [show k = r from e] at hk; omega)).trans hu6 (fun k hk e => by rw [show k = r from e] at hk; omega)
        clear hu6 h56 h60
        obtain ⟨tn, htn⟩ : ∃ tn, tn = titleN s := ⟨_, rfl⟩
        obtain ⟨tt, htt⟩ : ∃ tt, tt = titleT s := ⟨_, rfl⟩
        have HNX : Hid (CtC D (k + 1) (if mayB D2.size tn && (tt % 2 == (k : Int)) && (s == titleOf tt tn) && newer tt best then some (tn, tt) else best) D2) := by
          have := HCE2.out
          unfold titleAt at this
          rw [← htn, ← htt] at this
          exact Lib.hid this
        rw [← htn] at hN0 hN1 ⊢
        rw [← htt] at hT0 hT1 ⊢
        clear htn htt HCE2
        have hpar : tt.tmod 2 = tt % 2 := Int.tmod_eq_emod_of_nonneg hT0
        have hp0 : 0 ≤ tt % 2 := Int.emod_nonneg _ (by decide)
        have hp1 : tt % 2 < 2 := Int.emod_lt_of_pos _ (by decide)
        have MKb : Hid (∀ w', Upd NoS w6 w' → w'.heap[n + 1]? = some (.cells (bestC d best) 71 (0, 0)) ∧ w'.heap[w1.heap.size]? = some (.cells (bvs s).toArray 80 (0, 0)) ∧ IsDisk w' d D2 S2) :=
          Lib.hid fun w' hu => ⟨(hu36.tr hu).heap HG43.out id, (hu36.tr hu).heap Z3.out id, HI3.out.updNo (hu36.tr hu)⟩
        have HU36 := Lib.hid hu36
        clear hu36
        go_wp2
        refine wp_region_canonG (fun w' => Upd NoS w6 w') 27 1 [2, 14] [0, 1, 2, 3, 4, 5, 6, 7, 8, 9, 10, 11, 12, 13, 14, 15, 16, 17, 18, 19, 20, 21, 22, 23, 24, 25, 26] rfl (by kernel_rfl) (by decide) (by kernel_rfl) (by kernel_rfl) (by kernel_rfl) (by kernel_rfl) (by kernel_rfl) ((Upd.refl _ _).drew) ?_
        simp only [List.take_succ_cons, List.take_zero, List.drop_succ_cons, List.drop_zero, pickG, List.getElem?_cons_succ, List.getElem?_cons_zero, Nat.reduceBEq, List.contains_cons, List.contains_nil, Bool.or_self, Bool.or_false, Bool.or_true, Bool.true_or, Bool.false_or, Option.map_none, Option.map_some, Option.bind_some]
        have HTL := Lib.hid (show (titleOf tt tn).length = 64 from length_sealOf (by simp [length_be]))
        obtain ⟨cnd, hcnd⟩ : ∃ cnd, cnd = (mayB D2.size tn && (tt % 2 == (k : Int)) && (s == titleOf tt tn) && newer tt best) := ⟨_, rfl⟩
        rw [← hcnd] at HNX
        have HK1 : Hid (((k : Int) + 1) = ((k + 1 : Nat) : Int)) := Lib.hid (by omega)
        have hst : ∀ W bst, Upd NoS w6 W ∨ Upd (OneS (n + 1)) w6 W → W.heap[n + 1]? = some (.cells (bestC d bst) 71 (0, 0)) → CtI W0 d m n D S bst D2 W := by
          intro W bst hu hg
          have hu' : Upd (OneS (n + 1)) w6 W := hu.elim (fun h => h.of_no) id
          have hu3 : Upd (OneS (n + 1)) w3 W := HU36.out.of_no.tr hu'
          refine ⟨S2, HI3.out.upd hu3 (fun k hk e => ?_), HS2.out, HU03.out.tr (hu3.mono (fun _ _ e => .inr e)), hg, (sameMap_upd HI3.out hu3 (fun e => ?_)).trans HM3.out, hlo2⟩
          · obtain rfl : k = n + 1 := e
            exact (HS2.out _ hk).elim (fun h => by have := hSl _ h; omega) (fun h => by omega)
          · have := hSl d HI.out.self
            rw [show d = n + 1 from e] at this
            omega
        have FALSE : Hid (cnd = false → ∀ W, Upd NoS w6 W → (∃ (k_1 : Nat) (best : Option (Int × Int)) (Dc : Dk), k_1 ≤ 2 ∧ Value.int .i64 (k + 1) = .int .i64 k_1 ∧ CtC D k_1 best Dc ∧ CtI W0 d m n D S best Dc W) ∧ 2 - (intOf (.int .i64 ((k : Int) + 1))).toNat < 2 - (intOf (.int .i64 (k : Int))).toNat) :=
          Lib.hid fun hc W hu => by
            refine ⟨⟨k + 1, best, D2, by omega, by rw [HK1.out], ?_, hst W best (.inl hu) (hu.heap ((MKb.out w6 (Upd.refl _ _)).1) id)⟩, by simp [intOf]; omega⟩
            have := HNX.out
            rw [hc] at this
            exact this
        have TRUE : Hid (cnd = true → ∀ W W', Upd NoS w6 W → Upd (OneS (n + 1)) W W' → W'.heap[n + 1]? = some (.cells (bookC d tn tt) 71 (0, 0)) → (∃ (k_1 : Nat) (best : Option (Int × Int)) (Dc : Dk), k_1 ≤ 2 ∧ Value.int .i64 (k + 1) = .int .i64 k_1 ∧ CtC D k_1 best Dc ∧ CtI W0 d m n D S best Dc W') ∧ 2 - (intOf (.int .i64 ((k : Int) + 1))).toNat < 2 - (intOf (.int .i64 (k : Int))).toNat) :=
          Lib.hid fun hc W W' hu hu' hg => by
            refine ⟨⟨k + 1, some (tn, tt), D2, by omega, by rw [HK1.out], ?_, hst W' (some (tn, tt)) (.inr (hu.of_no.tr hu')) hg⟩, by simp [intOf]; omega⟩
            have := HNX.out
            rw [hc] at this
            exact this
        have MKq : Hid (∀ w', Upd NoS w6 w' → w'.cell? ⟨n + 1, 0, none⟩ = (bestC d best)[0]? ∧ w'.cell? ⟨n + 1, 2, none⟩ = (bestC d best)[2]?) := Lib.hid fun w' hu => ⟨cell_at (MKb.out w' hu).1 0, cell_at (MKb.out w' hu).1 2⟩
        clear hst HNX
        iterate 2 (refine wpG_quiet ?_ rfl (fun w' hS => ?_) ?_; rotate_left; (· obtain ⟨f0, f1⟩ := MKq.out w' hS; go_simp; (try with_reducible rfl)); (try simp only [Act.put, List.setIfInBounds_toArray, List.set_cons_succ, List.set_cons_zero]))
        refine wpG_loud rfl (fun K hK => ?_)
        go_wp2_with fail
        refine (walMay _ d D2 S2 (MKb.out _ ((Upd.refl _ _).drew)).2.2 tn (by omega) (by omega)).mono ?_
        rintro e7 w7 ⟨rfl, rfl⟩
        cases hmay : mayB D2.size tn with
        | false =>
          rw [hmay] at hcnd
          simp only [Bool.false_and] at hcnd
          go_wp2_with fail
          refine hK _ _ ((Upd.refl _ _).drew) ?_
          clear hK
          (refine wpG_quiet ?_ rfl (fun w' hS => ?_) ?_; rotate_left; (· obtain ⟨f0, f1⟩ := MKq.out w' hS; go_simp; (try with_reducible rfl)); (try simp only [Act.put, List.setIfInBounds_toArray, List.set_cons_succ, List.set_cons_zero]))
          (refine wpG_skip (by simp only [wantG, Option.bind_some, List.getElem?_toArray, List.getElem?_cons_succ, List.getElem?_cons_zero]; rfl) ?_; simp only [Act.put, List.setIfInBounds_toArray, List.set_cons_succ, List.set_cons_zero])
          (refine wpG_skip (by simp only [wantG, Option.bind_some, List.getElem?_toArray, List.getElem?_cons_succ, List.getElem?_cons_zero]; rfl) ?_; simp only [Act.put, List.setIfInBounds_toArray, List.set_cons_succ, List.set_cons_zero])
          (refine wpG_skip (by simp only [wantG, Option.bind_some, List.getElem?_toArray, List.getElem?_cons_succ, List.getElem?_cons_zero]; rfl) ?_; simp only [Act.put, List.setIfInBounds_toArray, List.set_cons_succ, List.set_cons_zero])
          (refine wpG_skip (by simp only [wantG, Option.bind_some, List.getElem?_toArray, List.getElem?_cons_succ, List.getElem?_cons_zero]; rfl) ?_; simp only [Act.put, List.setIfInBounds_toArray, List.set_cons_succ, List.set_cons_zero])
          (refine wpG_skip (by simp only [wantG, Option.bind_some, List.getElem?_toArray, List.getElem?_cons_succ, List.getElem?_cons_zero]; rfl) ?_; simp only [Act.put, List.setIfInBounds_toArray, List.set_cons_succ, List.set_cons_zero])
          (refine wpG_quiet ?_ rfl (fun w' hS => ?_) ?_; rotate_left; (· obtain ⟨f0, f1⟩ := MKq.out w' hS; go_simp; (try with_reducible rfl)); (try simp only [Act.put, List.setIfInBounds_toArray, List.set_cons_succ, List.set_cons_zero]))
          (refine wpG_quiet ?_ rfl (fun w' hS => ?_) ?_; rotate_left; (· obtain ⟨f0, f1⟩ := MKq.out w' hS; go_simp; (try with_reducible rfl)); (try simp only [Act.put, List.setIfInBounds_toArray, List.set_cons_succ, List.set_cons_zero]))
          (refine wpG_skip (by simp only [wantG, Option.bind_some, List.getElem?_toArray, List.getElem?_cons_succ, List.getElem?_cons_zero]; rfl) ?_; simp only [Act.put, List.setIfInBounds_toArray, List.set_cons_succ, List.set_cons_zero])
          (refine wpG_skip (by simp only [wantG, Option.bind_some, List.getElem?_toArray, List.getElem?_cons_succ, List.getElem?_cons_zero]; rfl) ?_; simp only [Act.put, List.setIfInBounds_toArray, List.set_cons_succ, List.set_cons_zero])
          (refine wpG_skip (by simp only [wantG, Option.bind_some, List.getElem?_toArray, List.getElem?_cons_succ, List.getElem?_cons_zero]; rfl) ?_; simp only [Act.put, List.setIfInBounds_toArray, List.set_cons_succ, List.set_cons_zero])
          (refine wpG_loudskip (by simp only [wantG, Option.bind_some, List.getElem?_toArray, List.getElem?_cons_succ, List.getElem?_cons_zero]; rfl) ((Upd.refl _ _).drew) ?_; simp only [Act.put, List.setIfInBounds_toArray, List.set_cons_succ, List.set_cons_zero])
          (refine wpG_skip (by simp only [wantG, Option.bind_some, List.getElem?_toArray, List.getElem?_cons_succ, List.getElem?_cons_zero]; rfl) ?_; simp only [Act.put, List.setIfInBounds_toArray, List.set_cons_succ, List.set_cons_zero])
          (refine wpG_quiet ?_ rfl (fun w' hS => ?_) ?_; rotate_left; (· obtain ⟨f0, f1⟩ := MKq.out w' hS; go_simp; (try with_reducible rfl)); (try simp only [Act.put, List.setIfInBounds_toArray, List.set_cons_succ, List.set_cons_zero]))
          (refine wpG_quiet ?_ rfl (fun w' hS => ?_) ?_; rotate_left; (· obtain ⟨f0, f1⟩ := MKq.out w' hS; go_simp; (try with_reducible rfl)); (try simp only [Act.put, List.setIfInBounds_toArray, List.set_cons_succ, List.set_cons_zero]))
          (refine wpG_skip (by simp only [wantG, Option.bind_some, List.getElem?_toArray, List.getElem?_cons_succ, List.getElem?_cons_zero]; rfl) ?_; simp only [Act.put, List.setIfInBounds_toArray, List.set_cons_succ, List.set_cons_zero])
          (refine wpG_skip (by simp only [wantG, Option.bind_some, List.getElem?_toArray, List.getElem?_cons_succ, List.getElem?_cons_zero]; rfl) ?_; simp only [Act.put, List.setIfInBounds_toArray, List.set_cons_succ, List.set_cons_zero])
          (refine wpG_skip (by simp only [wantG, Option.bind_some, List.getElem?_toArray, List.getElem?_cons_succ, List.getElem?_cons_zero]; rfl) ?_; simp only [Act.put, List.setIfInBounds_toArray, List.set_cons_succ, List.set_cons_zero])
          (refine wpG_skip (by simp only [wantG, Option.bind_some, List.getElem?_toArray, List.getElem?_cons_succ, List.getElem?_cons_zero]; rfl) ?_; simp only [Act.put, List.setIfInBounds_toArray, List.set_cons_succ, List.set_cons_zero])
          (refine wpG_skip (by simp only [wantG, Option.bind_some, List.getElem?_toArray, List.getElem?_cons_succ, List.getElem?_cons_zero]; rfl) ?_; simp only [Act.put, List.setIfInBounds_toArray, List.set_cons_succ, List.set_cons_zero])
          (refine wpG_skip (by simp only [wantG, Option.bind_some, List.getElem?_toArray, List.getElem?_cons_succ, List.getElem?_cons_zero]; rfl) ?_; simp only [Act.put, List.setIfInBounds_toArray, List.set_cons_succ, List.set_cons_zero])
          (refine wpG_skip (by simp only [wantG, Option.bind_some, List.getElem?_toArray, List.getElem?_cons_succ, List.getElem?_cons_zero]; rfl) ?_; simp only [Act.put, List.setIfInBounds_toArray, List.set_cons_succ, List.set_cons_zero])
          (refine wpG_skip (by simp only [wantG, Option.bind_some, List.getElem?_toArray, List.getElem?_cons_succ, List.getElem?_cons_zero]; rfl) ?_; simp only [Act.put, List.setIfInBounds_toArray, List.set_cons_succ, List.set_cons_zero])
          (refine wpG_skip (by simp only [wantG, Option.bind_some, List.getElem?_toArray, List.getElem?_cons_succ, List.getElem?_cons_zero]; rfl) ?_; simp only [Act.put, List.setIfInBounds_toArray, List.set_cons_succ, List.set_cons_zero])
          refine wpG_nil ?_
          go_wp2
          refine NoPanic.normal ?_
          go_wp2
          exact FALSE.out (hcnd) _ ((Upd.refl _ _).drew)
        | true =>
          rw [hmay] at hcnd
          simp only [Bool.true_and] at hcnd
          have hwp : IntKind.i64.wrap (tt % 2) = tt % 2 := by rw [IntKind.wrap_i64]; omega
          go_wp2_with fail
          refine hK _ _ ((Upd.refl _ _).drew) ?_
          clear hK
          cases hpa : (tt % 2 == (k : Int)) with
          | false =>
            rw [hpa] at hcnd
            simp only [Bool.false_and] at hcnd
            (refine wpG_quiet ?_ rfl (fun w' hS => ?_) ?_; rotate_left; (· obtain ⟨f0, f1⟩ := MKq.out w' hS; go_simp; (try with_reducible rfl)); (try simp only [Act.put, List.setIfInBounds_toArray, List.set_cons_succ, List.set_cons_zero]))
            (refine wpG_quiet ?_ (by simp only [wantG, Option.bind_some, List.getElem?_toArray, List.getElem?_cons_succ, List.getElem?_cons_zero]; rfl) (fun w' hS => ?_) ?_; rotate_left; (· obtain ⟨f0, f1⟩ := MKq.out w' hS; go_simp; (try with_reducible rfl)); (try simp only [Act.put, List.setIfInBounds_toArray, List.set_cons_succ, List.set_cons_zero]))
            (refine wpG_quiet ?_ (by simp only [wantG, Option.bind_some, List.getElem?_toArray, List.getElem?_cons_succ, List.getElem?_cons_zero]; rfl) (fun w' hS => ?_) ?_; rotate_left; (· obtain ⟨f0, f1⟩ := MKq.out w' hS; go_simp; (try with_reducible rfl)); (try simp only [Act.put, List.setIfInBounds_toArray, List.set_cons_succ, List.set_cons_zero]))
            (refine wpG_quiet ?_ (by simp only [wantG, Option.bind_some, List.getElem?_toArray, List.getElem?_cons_succ, List.getElem?_cons_zero]; rfl) (fun w' hS => ?_) ?_; rotate_left; (· obtain ⟨f0, f1⟩ := MKq.out w' hS; go_simp; (try with_reducible rfl)); (try simp only [Act.put, List.setIfInBounds_toArray, List.set_cons_succ, List.set_cons_zero]))
            (refine wpG_quiet ?_ (by simp only [wantG, Option.bind_some, List.getElem?_toArray, List.getElem?_cons_succ, List.getElem?_cons_zero]; rfl) (fun w' hS => ?_) ?_; rotate_left; (· obtain ⟨f0, f1⟩ := MKq.out w' hS; go_simp; (try with_reducible rfl)); (try simp only [Act.put, List.setIfInBounds_toArray, List.set_cons_succ, List.set_cons_zero]))
            (refine wpG_quiet ?_ (by simp only [wantG, Option.bind_some, List.getElem?_toArray, List.getElem?_cons_succ, List.getElem?_cons_zero]; rfl) (fun w' hS => ?_) ?_; rotate_left; (· obtain ⟨f0, f1⟩ := MKq.out w' hS; go_simp; (try with_reducible rfl)); (try simp only [Act.put, List.setIfInBounds_toArray, List.set_cons_succ, List.set_cons_zero]))
            try simp only [hwp, hpa]
            (refine wpG_quiet ?_ rfl (fun w' hS => ?_) ?_; rotate_left; (· obtain ⟨f0, f1⟩ := MKq.out w' hS; go_simp; (try with_reducible rfl)); (try simp only [Act.put, List.setIfInBounds_toArray, List.set_cons_succ, List.set_cons_zero]))
            (refine wpG_quiet ?_ rfl (fun w' hS => ?_) ?_; rotate_left; (· obtain ⟨f0, f1⟩ := MKq.out w' hS; go_simp; (try with_reducible rfl)); (try simp only [Act.put, List.setIfInBounds_toArray, List.set_cons_succ, List.set_cons_zero]))
            (refine wpG_skip (by simp only [wantG, Option.bind_some, List.getElem?_toArray, List.getElem?_cons_succ, List.getElem?_cons_zero]; rfl) ?_; simp only [Act.put, List.setIfInBounds_toArray, List.set_cons_succ, List.set_cons_zero])
            (refine wpG_skip (by simp only [wantG, Option.bind_some, List.getElem?_toArray, List.getElem?_cons_succ, List.getElem?_cons_zero]; rfl) ?_; simp only [Act.put, List.setIfInBounds_toArray, List.set_cons_succ, List.set_cons_zero])
            (refine wpG_skip (by simp only [wantG, Option.bind_some, List.getElem?_toArray, List.getElem?_cons_succ, List.getElem?_cons_zero]; rfl) ?_; simp only [Act.put, List.setIfInBounds_toArray, List.set_cons_succ, List.set_cons_zero])
            (refine wpG_loudskip (by simp only [wantG, Option.bind_some, List.getElem?_toArray, List.getElem?_cons_succ, List.getElem?_cons_zero]; rfl) ((Upd.refl _ _).drew) ?_; simp only [Act.put, List.setIfInBounds_toArray, List.set_cons_succ, List.set_cons_zero])
            (refine wpG_skip (by simp only [wantG, Option.bind_some, List.getElem?_toArray, List.getElem?_cons_succ, List.getElem?_cons_zero]; rfl) ?_; simp only [Act.put, List.setIfInBounds_toArray, List.set_cons_succ, List.set_cons_zero])
            (refine wpG_quiet ?_ rfl (fun w' hS => ?_) ?_; rotate_left; (· obtain ⟨f0, f1⟩ := MKq.out w' hS; go_simp; (try with_reducible rfl)); (try simp only [Act.put, List.setIfInBounds_toArray, List.set_cons_succ, List.set_cons_zero]))
            (refine wpG_quiet ?_ rfl (fun w' hS => ?_) ?_; rotate_left; (· obtain ⟨f0, f1⟩ := MKq.out w' hS; go_simp; (try with_reducible rfl)); (try simp only [Act.put, List.setIfInBounds_toArray, List.set_cons_succ, List.set_cons_zero]))
            (refine wpG_skip (by simp only [wantG, Option.bind_some, List.getElem?_toArray, List.getElem?_cons_succ, List.getElem?_cons_zero]; rfl) ?_; simp only [Act.put, List.setIfInBounds_toArray, List.set_cons_succ, List.set_cons_zero])
            (refine wpG_skip (by simp only [wantG, Option.bind_some, List.getElem?_toArray, List.getElem?_cons_succ, List.getElem?_cons_zero]; rfl) ?_; simp only [Act.put, List.setIfInBounds_toArray, List.set_cons_succ, List.set_cons_zero])
            (refine wpG_skip (by simp only [wantG, Option.bind_some, List.getElem?_toArray, List.getElem?_cons_succ, List.getElem?_cons_zero]; rfl) ?_; simp only [Act.put, List.setIfInBounds_toArray, List.set_cons_succ, List.set_cons_zero])
            (refine wpG_skip (by simp only [wantG, Option.bind_some, List.getElem?_toArray, List.getElem?_cons_succ, List.getElem?_cons_zero]; rfl) ?_; simp only [Act.put, List.setIfInBounds_toArray, List.set_cons_succ, List.set_cons_zero])
            (refine wpG_skip (by simp only [wantG, Option.bind_some, List.getElem?_toArray, List.getElem?_cons_succ, List.getElem?_cons_zero]; rfl) ?_; simp only [Act.put, List.setIfInBounds_toArray, List.set_cons_succ, List.set_cons_zero])
            (refine wpG_skip (by simp only [wantG, Option.bind_some, List.getElem?_toArray, List.getElem?_cons_succ, List.getElem?_cons_zero]; rfl) ?_; simp only [Act.put, List.setIfInBounds_toArray, List.set_cons_succ, List.set_cons_zero])
            (refine wpG_skip (by simp only [wantG, Option.bind_some, List.getElem?_toArray, List.getElem?_cons_succ, List.getElem?_cons_zero]; rfl) ?_; simp only [Act.put, List.setIfInBounds_toArray, List.set_cons_succ, List.set_cons_zero])
            (refine wpG_skip (by simp only [wantG, Option.bind_some, List.getElem?_toArray, List.getElem?_cons_succ, List.getElem?_cons_zero]; rfl) ?_; simp only [Act.put, List.setIfInBounds_toArray, List.set_cons_succ, List.set_cons_zero])
            (refine wpG_skip (by simp only [wantG, Option.bind_some, List.getElem?_toArray, List.getElem?_cons_succ, List.getElem?_cons_zero]; rfl) ?_; simp only [Act.put, List.setIfInBounds_toArray, List.set_cons_succ, List.set_cons_zero])
            refine wpG_nil ?_
            go_wp2
            refine NoPanic.normal ?_
            go_wp2
            exact FALSE.out (hcnd) _ ((Upd.refl _ _).drew)
          | true =>
            rw [hpa] at hcnd
            simp only [Bool.true_and] at hcnd
            cases hti : (s == titleOf tt tn) with
            | false =>
              rw [hti] at hcnd
              simp only [Bool.false_and] at hcnd
              (refine wpG_quiet ?_ rfl (fun w' hS => ?_) ?_; rotate_left; (· obtain ⟨f0, f1⟩ := MKq.out w' hS; go_simp; (try with_reducible rfl)); (try simp only [Act.put, List.setIfInBounds_toArray, List.set_cons_succ, List.set_cons_zero]))
              (refine wpG_quiet ?_ (by simp only [wantG, Option.bind_some, List.getElem?_toArray, List.getElem?_cons_succ, List.getElem?_cons_zero]; rfl) (fun w' hS => ?_) ?_; rotate_left; (· obtain ⟨f0, f1⟩ := MKq.out w' hS; go_simp; (try with_reducible rfl)); (try simp only [Act.put, List.setIfInBounds_toArray, List.set_cons_succ, List.set_cons_zero]))
              (refine wpG_quiet ?_ (by simp only [wantG, Option.bind_some, List.getElem?_toArray, List.getElem?_cons_succ, List.getElem?_cons_zero]; rfl) (fun w' hS => ?_) ?_; rotate_left; (· obtain ⟨f0, f1⟩ := MKq.out w' hS; go_simp; (try with_reducible rfl)); (try simp only [Act.put, List.setIfInBounds_toArray, List.set_cons_succ, List.set_cons_zero]))
              (refine wpG_quiet ?_ (by simp only [wantG, Option.bind_some, List.getElem?_toArray, List.getElem?_cons_succ, List.getElem?_cons_zero]; rfl) (fun w' hS => ?_) ?_; rotate_left; (· obtain ⟨f0, f1⟩ := MKq.out w' hS; go_simp; (try with_reducible rfl)); (try simp only [Act.put, List.setIfInBounds_toArray, List.set_cons_succ, List.set_cons_zero]))
              (refine wpG_quiet ?_ (by simp only [wantG, Option.bind_some, List.getElem?_toArray, List.getElem?_cons_succ, List.getElem?_cons_zero]; rfl) (fun w' hS => ?_) ?_; rotate_left; (· obtain ⟨f0, f1⟩ := MKq.out w' hS; go_simp; (try with_reducible rfl)); (try simp only [Act.put, List.setIfInBounds_toArray, List.set_cons_succ, List.set_cons_zero]))
              (refine wpG_quiet ?_ (by simp only [wantG, Option.bind_some, List.getElem?_toArray, List.getElem?_cons_succ, List.getElem?_cons_zero]; rfl) (fun w' hS => ?_) ?_; rotate_left; (· obtain ⟨f0, f1⟩ := MKq.out w' hS; go_simp; (try with_reducible rfl)); (try simp only [Act.put, List.setIfInBounds_toArray, List.set_cons_succ, List.set_cons_zero]))
              try simp only [hwp, hpa]
              (refine wpG_quiet ?_ rfl (fun w' hS => ?_) ?_; rotate_left; (· obtain ⟨f0, f1⟩ := MKq.out w' hS; go_simp; (try with_reducible rfl)); (try simp only [Act.put, List.setIfInBounds_toArray, List.set_cons_succ, List.set_cons_zero]))
              (refine wpG_quiet ?_ rfl (fun w' hS => ?_) ?_; rotate_left; (· obtain ⟨f0, f1⟩ := MKq.out w' hS; go_simp; (try with_reducible rfl)); (try simp only [Act.put, List.setIfInBounds_toArray, List.set_cons_succ, List.set_cons_zero]))
              (refine wpG_quiet (.agg (bvs s).toArray) (by simp only [wantG, Option.bind_some, List.getElem?_toArray, List.getElem?_cons_succ, List.getElem?_cons_zero]; rfl) (fun w' hS => exec_load0 (MKb.out w' hS).2.1 Try.underlying80 rfl sizeBlock (by simp [h64]) rfl rfl) ?_; simp only [Act.put, List.setIfInBounds_toArray, List.set_cons_succ, List.set_cons_zero])
              (refine wpG_quiet ?_ (by simp only [wantG, Option.bind_some, List.getElem?_toArray, List.getElem?_cons_succ, List.getElem?_cons_zero]; rfl) (fun w' hS => ?_) ?_; rotate_left; (· obtain ⟨f0, f1⟩ := MKq.out w' hS; go_simp; (try with_reducible rfl)); (try simp only [Act.put, List.setIfInBounds_toArray, List.set_cons_succ, List.set_cons_zero]))
              (refine wpG_quiet ?_ (by simp only [wantG, Option.bind_some, List.getElem?_toArray, List.getElem?_cons_succ, List.getElem?_cons_zero]; rfl) (fun w' hS => ?_) ?_; rotate_left; (· obtain ⟨f0, f1⟩ := MKq.out w' hS; go_simp; (try with_reducible rfl)); (try simp only [Act.put, List.setIfInBounds_toArray, List.set_cons_succ, List.set_cons_zero]))
              refine wpG_loud (by simp only [wantG, Option.bind_some, List.getElem?_toArray, List.getElem?_cons_succ, List.getElem?_cons_zero]; rfl) (fun K hK => ?_)
              go_wp2_with fail
              refine (walTitle _ tt tn hT0 hT1 hN0 hN1).mono ?_
              rintro e8 w8 ⟨rfl, hu8⟩
              have HU8 := Lib.hid ((Upd.refl NoS w6).drew.tr hu8)
              clear hu8
              go_wp2_with fail
              refine hK _ _ HU8.out ?_
              clear hK
              (refine wpG_quiet (.bool (s == titleOf tt tn)) (by simp only [wantG, Option.bind_some, List.getElem?_toArray, List.getElem?_cons_succ, List.getElem?_cons_zero]; rfl) (fun w' hS => exec_eql_block rfl rfl rfl h64 HTL.out) ?_; simp only [Act.put, List.setIfInBounds_toArray, List.set_cons_succ, List.set_cons_zero])
              try simp only [hti]
              (refine wpG_quiet ?_ rfl (fun w' hS => ?_) ?_; rotate_left; (· obtain ⟨f0, f1⟩ := MKq.out w' hS; go_simp; (try with_reducible rfl)); (try simp only [Act.put, List.setIfInBounds_toArray, List.set_cons_succ, List.set_cons_zero]))
              (refine wpG_quiet ?_ rfl (fun w' hS => ?_) ?_; rotate_left; (· obtain ⟨f0, f1⟩ := MKq.out w' hS; go_simp; (try with_reducible rfl)); (try simp only [Act.put, List.setIfInBounds_toArray, List.set_cons_succ, List.set_cons_zero]))
              (refine wpG_skip (by simp only [wantG, Option.bind_some, List.getElem?_toArray, List.getElem?_cons_succ, List.getElem?_cons_zero]; rfl) ?_; simp only [Act.put, List.setIfInBounds_toArray, List.set_cons_succ, List.set_cons_zero])
              (refine wpG_skip (by simp only [wantG, Option.bind_some, List.getElem?_toArray, List.getElem?_cons_succ, List.getElem?_cons_zero]; rfl) ?_; simp only [Act.put, List.setIfInBounds_toArray, List.set_cons_succ, List.set_cons_zero])
              (refine wpG_skip (by simp only [wantG, Option.bind_some, List.getElem?_toArray, List.getElem?_cons_succ, List.getElem?_cons_zero]; rfl) ?_; simp only [Act.put, List.setIfInBounds_toArray, List.set_cons_succ, List.set_cons_zero])
              (refine wpG_skip (by simp only [wantG, Option.bind_some, List.getElem?_toArray, List.getElem?_cons_succ, List.getElem?_cons_zero]; rfl) ?_; simp only [Act.put, List.setIfInBounds_toArray, List.set_cons_succ, List.set_cons_zero])
              (refine wpG_skip (by simp only [wantG, Option.bind_some, List.getElem?_toArray, List.getElem?_cons_succ, List.getElem?_cons_zero]; rfl) ?_; simp only [Act.put, List.setIfInBounds_toArray, List.set_cons_succ, List.set_cons_zero])
              (refine wpG_skip (by simp only [wantG, Option.bind_some, List.getElem?_toArray, List.getElem?_cons_succ, List.getElem?_cons_zero]; rfl) ?_; simp only [Act.put, List.setIfInBounds_toArray, List.set_cons_succ, List.set_cons_zero])
              (refine wpG_skip (by simp only [wantG, Option.bind_some, List.getElem?_toArray, List.getElem?_cons_succ, List.getElem?_cons_zero]; rfl) ?_; simp only [Act.put, List.setIfInBounds_toArray, List.set_cons_succ, List.set_cons_zero])
              (refine wpG_skip (by simp only [wantG, Option.bind_some, List.getElem?_toArray, List.getElem?_cons_succ, List.getElem?_cons_zero]; rfl) ?_; simp only [Act.put, List.setIfInBounds_toArray, List.set_cons_succ, List.set_cons_zero])
              (refine wpG_skip (by simp only [wantG, Option.bind_some, List.getElem?_toArray, List.getElem?_cons_succ, List.getElem?_cons_zero]; rfl) ?_; simp only [Act.put, List.setIfInBounds_toArray, List.set_cons_succ, List.set_cons_zero])
              refine wpG_nil ?_
              go_wp2
              refine NoPanic.normal ?_
              go_wp2
              exact FALSE.out (hcnd) _ (HU8.out)
            | true =>
              rw [hti] at hcnd
              simp only [Bool.true_and] at hcnd
              cases best with
              | none =>
                simp only [newer] at hcnd
                have MKn : Hid (∀ w', Upd NoS w6 w' → w'.cell? ⟨n + 1, 0, none⟩ = some (.pointer none) ∧ w'.cell? ⟨n + 1, 2, none⟩ = some (.int .u32 0)) := Lib.hid fun w' hu => MKq.out w' hu
                clear MKq
                (refine wpG_quiet ?_ rfl (fun w' hS => ?_) ?_; rotate_left; (· obtain ⟨f0, f1⟩ := MKn.out w' hS; go_simp; (try with_reducible rfl)); (try simp only [Act.put, List.setIfInBounds_toArray, List.set_cons_succ, List.set_cons_zero]))
                (refine wpG_quiet ?_ (by simp only [wantG, Option.bind_some, List.getElem?_toArray, List.getElem?_cons_succ, List.getElem?_cons_zero]; rfl) (fun w' hS => ?_) ?_; rotate_left; (· obtain ⟨f0, f1⟩ := MKn.out w' hS; go_simp; (try with_reducible rfl)); (try simp only [Act.put, List.setIfInBounds_toArray, List.set_cons_succ, List.set_cons_zero]))
                (refine wpG_quiet ?_ (by simp only [wantG, Option.bind_some, List.getElem?_toArray, List.getElem?_cons_succ, List.getElem?_cons_zero]; rfl) (fun w' hS => ?_) ?_; rotate_left; (· obtain ⟨f0, f1⟩ := MKn.out w' hS; go_simp; (try with_reducible rfl)); (try simp only [Act.put, List.setIfInBounds_toArray, List.set_cons_succ, List.set_cons_zero]))
                (refine wpG_quiet ?_ (by simp only [wantG, Option.bind_some, List.getElem?_toArray, List.getElem?_cons_succ, List.getElem?_cons_zero]; rfl) (fun w' hS => ?_) ?_; rotate_left; (· obtain ⟨f0, f1⟩ := MKn.out w' hS; go_simp; (try with_reducible rfl)); (try simp only [Act.put, List.setIfInBounds_toArray, List.set_cons_succ, List.set_cons_zero]))
                (refine wpG_quiet ?_ (by simp only [wantG, Option.bind_some, List.getElem?_toArray, List.getElem?_cons_succ, List.getElem?_cons_zero]; rfl) (fun w' hS => ?_) ?_; rotate_left; (· obtain ⟨f0, f1⟩ := MKn.out w' hS; go_simp; (try with_reducible rfl)); (try simp only [Act.put, List.setIfInBounds_toArray, List.set_cons_succ, List.set_cons_zero]))
                (refine wpG_quiet ?_ (by simp only [wantG, Option.bind_some, List.getElem?_toArray, List.getElem?_cons_succ, List.getElem?_cons_zero]; rfl) (fun w' hS => ?_) ?_; rotate_left; (· obtain ⟨f0, f1⟩ := MKn.out w' hS; go_simp; (try with_reducible rfl)); (try simp only [Act.put, List.setIfInBounds_toArray, List.set_cons_succ, List.set_cons_zero]))
                try simp only [hwp, hpa]
                (refine wpG_quiet ?_ rfl (fun w' hS => ?_) ?_; rotate_left; (· obtain ⟨f0, f1⟩ := MKn.out w' hS; go_simp; (try with_reducible rfl)); (try simp only [Act.put, List.setIfInBounds_toArray, List.set_cons_succ, List.set_cons_zero]))
                (refine wpG_quiet ?_ rfl (fun w' hS => ?_) ?_; rotate_left; (· obtain ⟨f0, f1⟩ := MKn.out w' hS; go_simp; (try with_reducible rfl)); (try simp only [Act.put, List.setIfInBounds_toArray, List.set_cons_succ, List.set_cons_zero]))
                (refine wpG_quiet (.agg (bvs s).toArray) (by simp only [wantG, Option.bind_some, List.getElem?_toArray, List.getElem?_cons_succ, List.getElem?_cons_zero]; rfl) (fun w' hS => exec_load0 (MKb.out w' hS).2.1 Try.underlying80 rfl sizeBlock (by simp [h64]) rfl rfl) ?_; simp only [Act.put, List.setIfInBounds_toArray, List.set_cons_succ, List.set_cons_zero])
                (refine wpG_quiet ?_ (by simp only [wantG, Option.bind_some, List.getElem?_toArray, List.getElem?_cons_succ, List.getElem?_cons_zero]; rfl) (fun w' hS => ?_) ?_; rotate_left; (· obtain ⟨f0, f1⟩ := MKn.out w' hS; go_simp; (try with_reducible rfl)); (try simp only [Act.put, List.setIfInBounds_toArray, List.set_cons_succ, List.set_cons_zero]))
                (refine wpG_quiet ?_ (by simp only [wantG, Option.bind_some, List.getElem?_toArray, List.getElem?_cons_succ, List.getElem?_cons_zero]; rfl) (fun w' hS => ?_) ?_; rotate_left; (· obtain ⟨f0, f1⟩ := MKn.out w' hS; go_simp; (try with_reducible rfl)); (try simp only [Act.put, List.setIfInBounds_toArray, List.set_cons_succ, List.set_cons_zero]))
                refine wpG_loud (by simp only [wantG, Option.bind_some, List.getElem?_toArray, List.getElem?_cons_succ, List.getElem?_cons_zero]; rfl) (fun K hK => ?_)
                go_wp2_with fail
                refine (walTitle _ tt tn hT0 hT1 hN0 hN1).mono ?_
                rintro e8 w8 ⟨rfl, hu8⟩
                have HU8 := Lib.hid ((Upd.refl NoS w6).drew.tr hu8)
                clear hu8
                go_wp2_with fail
                refine hK _ _ HU8.out ?_
                clear hK
                (refine wpG_quiet (.bool (s == titleOf tt tn)) (by simp only [wantG, Option.bind_some, List.getElem?_toArray, List.getElem?_cons_succ, List.getElem?_cons_zero]; rfl) (fun w' hS => exec_eql_block rfl rfl rfl h64 HTL.out) ?_; simp only [Act.put, List.setIfInBounds_toArray, List.set_cons_succ, List.set_cons_zero])
                try simp only [hti]
                (refine wpG_quiet ?_ rfl (fun w' hS => ?_) ?_; rotate_left; (· obtain ⟨f0, f1⟩ := MKn.out w' hS; go_simp; (try with_reducible rfl)); (try simp only [Act.put, List.setIfInBounds_toArray, List.set_cons_succ, List.set_cons_zero]))
                (refine wpG_quiet ?_ rfl (fun w' hS => ?_) ?_; rotate_left; (· obtain ⟨f0, f1⟩ := MKn.out w' hS; go_simp; (try with_reducible rfl)); (try simp only [Act.put, List.setIfInBounds_toArray, List.set_cons_succ, List.set_cons_zero]))
                (refine wpG_quiet ?_ (by simp only [wantG, Option.bind_some, List.getElem?_toArray, List.getElem?_cons_succ, List.getElem?_cons_zero]; rfl) (fun w' hS => ?_) ?_; rotate_left; (· obtain ⟨f0, f1⟩ := MKn.out w' hS; go_simp; (try with_reducible rfl)); (try simp only [Act.put, List.setIfInBounds_toArray, List.set_cons_succ, List.set_cons_zero]))
                (refine wpG_quiet ?_ (by simp only [wantG, Option.bind_some, List.getElem?_toArray, List.getElem?_cons_succ, List.getElem?_cons_zero]; rfl) (fun w' hS => ?_) ?_; rotate_left; (· obtain ⟨f0, f1⟩ := MKn.out w' hS; go_simp; (try with_reducible rfl)); (try simp only [Act.put, List.setIfInBounds_toArray, List.set_cons_succ, List.set_cons_zero]))
                (refine wpG_quiet ?_ (by simp only [wantG, Option.bind_some, List.getElem?_toArray, List.getElem?_cons_succ, List.getElem?_cons_zero]; rfl) (fun w' hS => ?_) ?_; rotate_left; (· obtain ⟨f0, f1⟩ := MKn.out w' hS; go_simp; (try with_reducible rfl)); (try simp only [Act.put, List.setIfInBounds_toArray, List.set_cons_succ, List.set_cons_zero]))
                (refine wpG_quiet ?_ (by simp only [wantG, Option.bind_some, List.getElem?_toArray, List.getElem?_cons_succ, List.getElem?_cons_zero]; rfl) (fun w' hS => ?_) ?_; rotate_left; (· obtain ⟨f0, f1⟩ := MKn.out w' hS; go_simp; (try with_reducible rfl)); (try simp only [Act.put, List.setIfInBounds_toArray, List.set_cons_succ, List.set_cons_zero]))
                (refine wpG_skip (by simp only [wantG, Option.bind_some, List.getElem?_toArray, List.getElem?_cons_succ, List.getElem?_cons_zero]; rfl) ?_; simp only [Act.put, List.setIfInBounds_toArray, List.set_cons_succ, List.set_cons_zero])
                (refine wpG_skip (by simp only [wantG, Option.bind_some, List.getElem?_toArray, List.getElem?_cons_succ, List.getElem?_cons_zero]; rfl) ?_; simp only [Act.put, List.setIfInBounds_toArray, List.set_cons_succ, List.set_cons_zero])
                (refine wpG_skip (by simp only [wantG, Option.bind_some, List.getElem?_toArray, List.getElem?_cons_succ, List.getElem?_cons_zero]; rfl) ?_; simp only [Act.put, List.setIfInBounds_toArray, List.set_cons_succ, List.set_cons_zero])
                (refine wpG_skip (by simp only [wantG, Option.bind_some, List.getElem?_toArray, List.getElem?_cons_succ, List.getElem?_cons_zero]; rfl) ?_; simp only [Act.put, List.setIfInBounds_toArray, List.set_cons_succ, List.set_cons_zero])
                (refine wpG_quiet ?_ (by simp only [wantG, Option.bind_some, List.getElem?_toArray, List.getElem?_cons_succ, List.getElem?_cons_zero]; rfl) (fun w' hS => ?_) ?_; rotate_left; (· obtain ⟨f0, f1⟩ := MKn.out w' hS; go_simp; (try with_reducible rfl)); (try simp only [Act.put, List.setIfInBounds_toArray, List.set_cons_succ, List.set_cons_zero]))
                refine wpG_nil ?_
                go_wp2
                refine NoPanic.normal ?_
                go_wp2_with (refine wpList_store0 (MKb.out _ (HU8.out)).1 sizeBook rfl (size_best d none) (one_book d tn tt) rfl (x := .tmp 4) (y := .tmp 62) rfl rfl rfl ?_; intro w9 hg9 hu9 hs9)
                exact TRUE.out (hcnd) _ _ (HU8.out) hu9 hg9
              | some b =>
                simp only [newer] at hcnd
                have MKn : Hid (∀ w', Upd NoS w6 w' → w'.cell? ⟨n + 1, 0, none⟩ = some (.pointer (some ⟨d, 0, none⟩)) ∧ w'.cell? ⟨n + 1, 2, none⟩ = some (.int .u32 b.2)) := Lib.hid fun w' hu => MKq.out w' hu
                clear MKq
                cases hlt : decide (b.2 < tt) with
                | false =>
                  rw [hlt] at hcnd
                  (refine wpG_quiet ?_ rfl (fun w' hS => ?_) ?_; rotate_left; (· obtain ⟨f0, f1⟩ := MKn.out w' hS; go_simp; (try with_reducible rfl)); (try simp only [Act.put, List.setIfInBounds_toArray, List.set_cons_succ, List.set_cons_zero]))
                  (refine wpG_quiet ?_ (by simp only [wantG, Option.bind_some, List.getElem?_toArray, List.getElem?_cons_succ, List.getElem?_cons_zero]; rfl) (fun w' hS => ?_) ?_; rotate_left; (· obtain ⟨f0, f1⟩ := MKn.out w' hS; go_simp; (try with_reducible rfl)); (try simp only [Act.put, List.setIfInBounds_toArray, List.set_cons_succ, List.set_cons_zero]))
                  (refine wpG_quiet ?_ (by simp only [wantG, Option.bind_some, List.getElem?_toArray, List.getElem?_cons_succ, List.getElem?_cons_zero]; rfl) (fun w' hS => ?_) ?_; rotate_left; (· obtain ⟨f0, f1⟩ := MKn.out w' hS; go_simp; (try with_reducible rfl)); (try simp only [Act.put, List.setIfInBounds_toArray, List.set_cons_succ, List.set_cons_zero]))
                  (refine wpG_quiet ?_ (by simp only [wantG, Option.bind_some, List.getElem?_toArray, List.getElem?_cons_succ, List.getElem?_cons_zero]; rfl) (fun w' hS => ?_) ?_; rotate_left; (· obtain ⟨f0, f1⟩ := MKn.out w' hS; go_simp; (try with_reducible rfl)); (try simp only [Act.put, List.setIfInBounds_toArray, List.set_cons_succ, List.set_cons_zero]))
                  (refine wpG_quiet ?_ (by simp only [wantG, Option.bind_some, List.getElem?_toArray, List.getElem?_cons_succ, List.getElem?_cons_zero]; rfl) (fun w' hS => ?_) ?_; rotate_left; (· obtain ⟨f0, f1⟩ := MKn.out w' hS; go_simp; (try with_reducible rfl)); (try simp only [Act.put, List.setIfInBounds_toArray, List.set_cons_succ, List.set_cons_zero]))
                  (refine wpG_quiet ?_ (by simp only [wantG, Option.bind_some, List.getElem?_toArray, List.getElem?_cons_succ, List.getElem?_cons_zero]; rfl) (fun w' hS => ?_) ?_; rotate_left; (· obtain ⟨f0, f1⟩ := MKn.out w' hS; go_simp; (try with_reducible rfl)); (try simp only [Act.put, List.setIfInBounds_toArray, List.set_cons_succ, List.set_cons_zero]))
                  try simp only [hwp, hpa]
                  (refine wpG_quiet ?_ rfl (fun w' hS => ?_) ?_; rotate_left; (· obtain ⟨f0, f1⟩ := MKn.out w' hS; go_simp; (try with_reducible rfl)); (try simp only [Act.put, List.setIfInBounds_toArray, List.set_cons_succ, List.set_cons_zero]))
                  (refine wpG_quiet ?_ rfl (fun w' hS => ?_) ?_; rotate_left; (· obtain ⟨f0, f1⟩ := MKn.out w' hS; go_simp; (try with_reducible rfl)); (try simp only [Act.put, List.setIfInBounds_toArray, List.set_cons_succ, List.set_cons_zero]))
                  (refine wpG_quiet (.agg (bvs s).toArray) (by simp only [wantG, Option.bind_some, List.getElem?_toArray, List.getElem?_cons_succ, List.getElem?_cons_zero]; rfl) (fun w' hS => exec_load0 (MKb.out w' hS).2.1 Try.underlying80 rfl sizeBlock (by simp [h64]) rfl rfl) ?_; simp only [Act.put, List.setIfInBounds_toArray, List.set_cons_succ, List.set_cons_zero])
                  (refine wpG_quiet ?_ (by simp only [wantG, Option.bind_some, List.getElem?_toArray, List.getElem?_cons_succ, List.getElem?_cons_zero]; rfl) (fun w' hS => ?_) ?_; rotate_left; (· obtain ⟨f0, f1⟩ := MKn.out w' hS; go_simp; (try with_reducible rfl)); (try simp only [Act.put, List.setIfInBounds_toArray, List.set_cons_succ, List.set_cons_zero]))
                  (refine wpG_quiet ?_ (by simp only [wantG, Option.bind_some, List.getElem?_toArray, List.getElem?_cons_succ, List.getElem?_cons_zero]; rfl) (fun w' hS => ?_) ?_; rotate_left; (· obtain ⟨f0, f1⟩ := MKn.out w' hS; go_simp; (try with_reducible rfl)); (try simp only [Act.put, List.setIfInBounds_toArray, List.set_cons_succ, List.set_cons_zero]))
                  refine wpG_loud (by simp only [wantG, Option.bind_some, List.getElem?_toArray, List.getElem?_cons_succ, List.getElem?_cons_zero]; rfl) (fun K hK => ?_)
                  go_wp2_with fail
                  refine (walTitle _ tt tn hT0 hT1 hN0 hN1).mono ?_
                  rintro e8 w8 ⟨rfl, hu8⟩
                  have HU8 := Lib.hid ((Upd.refl NoS w6).drew.tr hu8)
                  clear hu8
                  go_wp2_with fail
                  refine hK _ _ HU8.out ?_
                  clear hK
                  (refine wpG_quiet (.bool (s == titleOf tt tn)) (by simp only [wantG, Option.bind_some, List.getElem?_toArray, List.getElem?_cons_succ, List.getElem?_cons_zero]; rfl) (fun w' hS => exec_eql_block rfl rfl rfl h64 HTL.out) ?_; simp only [Act.put, List.setIfInBounds_toArray, List.set_cons_succ, List.set_cons_zero])
                  try simp only [hti]
                  (refine wpG_quiet ?_ rfl (fun w' hS => ?_) ?_; rotate_left; (· obtain ⟨f0, f1⟩ := MKn.out w' hS; go_simp; (try with_reducible rfl)); (try simp only [Act.put, List.setIfInBounds_toArray, List.set_cons_succ, List.set_cons_zero]))
                  (refine wpG_quiet ?_ rfl (fun w' hS => ?_) ?_; rotate_left; (· obtain ⟨f0, f1⟩ := MKn.out w' hS; go_simp; (try with_reducible rfl)); (try simp only [Act.put, List.setIfInBounds_toArray, List.set_cons_succ, List.set_cons_zero]))
                  (refine wpG_quiet ?_ (by simp only [wantG, Option.bind_some, List.getElem?_toArray, List.getElem?_cons_succ, List.getElem?_cons_zero]; rfl) (fun w' hS => ?_) ?_; rotate_left; (· obtain ⟨f0, f1⟩ := MKn.out w' hS; go_simp; (try with_reducible rfl)); (try simp only [Act.put, List.setIfInBounds_toArray, List.set_cons_succ, List.set_cons_zero]))
                  (refine wpG_quiet ?_ (by simp only [wantG, Option.bind_some, List.getElem?_toArray, List.getElem?_cons_succ, List.getElem?_cons_zero]; rfl) (fun w' hS => ?_) ?_; rotate_left; (· obtain ⟨f0, f1⟩ := MKn.out w' hS; go_simp; (try with_reducible rfl)); (try simp only [Act.put, List.setIfInBounds_toArray, List.set_cons_succ, List.set_cons_zero]))
                  (refine wpG_quiet ?_ (by simp only [wantG, Option.bind_some, List.getElem?_toArray, List.getElem?_cons_succ, List.getElem?_cons_zero]; rfl) (fun w' hS => ?_) ?_; rotate_left; (· obtain ⟨f0, f1⟩ := MKn.out w' hS; go_simp; (try with_reducible rfl)); (try simp only [Act.put, List.setIfInBounds_toArray, List.set_cons_succ, List.set_cons_zero]))
                  (refine wpG_quiet ?_ (by simp only [wantG, Option.bind_some, List.getElem?_toArray, List.getElem?_cons_succ, List.getElem?_cons_zero]; rfl) (fun w' hS => ?_) ?_; rotate_left; (· obtain ⟨f0, f1⟩ := MKn.out w' hS; go_simp; (try with_reducible rfl)); (try simp only [Act.put, List.setIfInBounds_toArray, List.set_cons_succ, List.set_cons_zero]))
                  (refine wpG_quiet ?_ (by simp only [wantG, Option.bind_some, List.getElem?_toArray, List.getElem?_cons_succ, List.getElem?_cons_zero]; rfl) (fun w' hS => ?_) ?_; rotate_left; (· obtain ⟨f0, f1⟩ := MKn.out w' hS; go_simp; (try with_reducible rfl)); (try simp only [Act.put, List.setIfInBounds_toArray, List.set_cons_succ, List.set_cons_zero]))
                  (refine wpG_quiet ?_ (by simp only [wantG, Option.bind_some, List.getElem?_toArray, List.getElem?_cons_succ, List.getElem?_cons_zero]; rfl) (fun w' hS => ?_) ?_; rotate_left; (· obtain ⟨f0, f1⟩ := MKn.out w' hS; go_simp; (try with_reducible rfl)); (try simp only [Act.put, List.setIfInBounds_toArray, List.set_cons_succ, List.set_cons_zero]))
                  (refine wpG_quiet ?_ (by simp only [wantG, Option.bind_some, List.getElem?_toArray, List.getElem?_cons_succ, List.getElem?_cons_zero]; rfl) (fun w' hS => ?_) ?_; rotate_left; (· obtain ⟨f0, f1⟩ := MKn.out w' hS; go_simp; (try with_reducible rfl)); (try simp only [Act.put, List.setIfInBounds_toArray, List.set_cons_succ, List.set_cons_zero]))
                  (refine wpG_quiet ?_ (by simp only [wantG, Option.bind_some, List.getElem?_toArray, List.getElem?_cons_succ, List.getElem?_cons_zero]; rfl) (fun w' hS => ?_) ?_; rotate_left; (· obtain ⟨f0, f1⟩ := MKn.out w' hS; go_simp; (try with_reducible rfl)); (try simp only [Act.put, List.setIfInBounds_toArray, List.set_cons_succ, List.set_cons_zero]))
                  try simp only [hlt]
                  (refine wpG_quiet ?_ (by simp only [wantG, Option.bind_some, List.getElem?_toArray, List.getElem?_cons_succ, List.getElem?_cons_zero]; rfl) (fun w' hS => ?_) ?_; rotate_left; (· obtain ⟨f0, f1⟩ := MKn.out w' hS; go_simp; (try with_reducible rfl)); (try simp only [Act.put, List.setIfInBounds_toArray, List.set_cons_succ, List.set_cons_zero]))
                  refine wpG_nil ?_
                  go_wp2
                  refine NoPanic.normal ?_
                  go_wp2
                  exact FALSE.out (hcnd) _ (HU8.out)
                | true =>
                  rw [hlt] at hcnd
                  (refine wpG_quiet ?_ rfl (fun w' hS => ?_) ?_; rotate_left; (· obtain ⟨f0, f1⟩ := MKn.out w' hS; go_simp; (try with_reducible rfl)); (try simp only [Act.put, List.setIfInBounds_toArray, List.set_cons_succ, List.set_cons_zero]))
                  (refine wpG_quiet ?_ (by simp only [wantG, Option.bind_some, List.getElem?_toArray, List.getElem?_cons_succ, List.getElem?_cons_zero]; rfl) (fun w' hS => ?_) ?_; rotate_left; (· obtain ⟨f0, f1⟩ := MKn.out w' hS; go_simp; (try with_reducible rfl)); (try simp only [Act.put, List.setIfInBounds_toArray, List.set_cons_succ, List.set_cons_zero]))
                  (refine wpG_quiet ?_ (by simp only [wantG, Option.bind_some, List.getElem?_toArray, List.getElem?_cons_succ, List.getElem?_cons_zero]; rfl) (fun w' hS => ?_) ?_; rotate_left; (· obtain ⟨f0, f1⟩ := MKn.out w' hS; go_simp; (try with_reducible rfl)); (try simp only [Act.put, List.setIfInBounds_toArray, List.set_cons_succ, List.set_cons_zero]))
                  (refine wpG_quiet ?_ (by simp only [wantG, Option.bind_some, List.getElem?_toArray, List.getElem?_cons_succ, List.getElem?_cons_zero]; rfl) (fun w' hS => ?_) ?_; rotate_left; (· obtain ⟨f0, f1⟩ := MKn.out w' hS; go_simp; (try with_reducible rfl)); (try simp only [Act.put, List.setIfInBounds_toArray, List.set_cons_succ, List.set_cons_zero]))
                  (refine wpG_quiet ?_ (by simp only [wantG, Option.bind_some, List.getElem?_toArray, List.getElem?_cons_succ, List.getElem?_cons_zero]; rfl) (fun w' hS => ?_) ?_; rotate_left; (· obtain ⟨f0, f1⟩ := MKn.out w' hS; go_simp; (try with_reducible rfl)); (try simp only [Act.put, List.setIfInBounds_toArray, List.set_cons_succ, List.set_cons_zero]))
                  (refine wpG_quiet ?_ (by simp only [wantG, Option.bind_some, List.getElem?_toArray, List.getElem?_cons_succ, List.getElem?_cons_zero]; rfl) (fun w' hS => ?_) ?_; rotate_left; (· obtain ⟨f0, f1⟩ := MKn.out w' hS; go_simp; (try with_reducible rfl)); (try simp only [Act.put, List.setIfInBounds_toArray, List.set_cons_succ, List.set_cons_zero]))
                  try simp only [hwp, hpa]
                  (refine wpG_quiet ?_ rfl (fun w' hS => ?_) ?_; rotate_left; (· obtain ⟨f0, f1⟩ := MKn.out w' hS; go_simp; (try with_reducible rfl)); (try simp only [Act.put, List.setIfInBounds_toArray, List.set_cons_succ, List.set_cons_zero]))
                  (refine wpG_quiet ?_ rfl (fun w' hS => ?_) ?_; rotate_left; (· obtain ⟨f0, f1⟩ := MKn.out w' hS; go_simp; (try with_reducible rfl)); (try simp only [Act.put, List.setIfInBounds_toArray, List.set_cons_succ, List.set_cons_zero]))
                  (refine wpG_quiet (.agg (bvs s).toArray) (by simp only [wantG, Option.bind_some, List.getElem?_toArray, List.getElem?_cons_succ, List.getElem?_cons_zero]; rfl) (fun w' hS => exec_load0 (MKb.out w' hS).2.1 Try.underlying80 rfl sizeBlock (by simp [h64]) rfl rfl) ?_; simp only [Act.put, List.setIfInBounds_toArray, List.set_cons_succ, List.set_cons_zero])
                  (refine wpG_quiet ?_ (by simp only [wantG, Option.bind_some, List.getElem?_toArray, List.getElem?_cons_succ, List.getElem?_cons_zero]; rfl) (fun w' hS => ?_) ?_; rotate_left; (· obtain ⟨f0, f1⟩ := MKn.out w' hS; go_simp; (try with_reducible rfl)); (try simp only [Act.put, List.setIfInBounds_toArray, List.set_cons_succ, List.set_cons_zero]))
                  (refine wpG_quiet ?_ (by simp only [wantG, Option.bind_some, List.getElem?_toArray, List.getElem?_cons_succ, List.getElem?_cons_zero]; rfl) (fun w' hS => ?_) ?_; rotate_left; (· obtain ⟨f0, f1⟩ := MKn.out w' hS; go_simp; (try with_reducible rfl)); (try simp only [Act.put, List.setIfInBounds_toArray, List.set_cons_succ, List.set_cons_zero]))
                  refine wpG_loud (by simp only [wantG, Option.bind_some, List.getElem?_toArray, List.getElem?_cons_succ, List.getElem?_cons_zero]; rfl) (fun K hK => ?_)
                  go_wp2_with fail
                  refine (walTitle _ tt tn hT0 hT1 hN0 hN1).mono ?_
                  rintro e8 w8 ⟨rfl, hu8⟩
                  have HU8 := Lib.hid ((Upd.refl NoS w6).drew.tr hu8)
                  clear hu8
                  go_wp2_with fail
                  refine hK _ _ HU8.out ?_
                  clear hK
                  (refine wpG_quiet (.bool (s == titleOf tt tn)) (by simp only [wantG, Option.bind_some, List.getElem?_toArray, List.getElem?_cons_succ, List.getElem?_cons_zero]; rfl) (fun w' hS => exec_eql_block rfl rfl rfl h64 HTL.out) ?_; simp only [Act.put, List.setIfInBounds_toArray, List.set_cons_succ, List.set_cons_zero])
                  try simp only [hti]
                  (refine wpG_quiet ?_ rfl (fun w' hS => ?_) ?_; rotate_left; (· obtain ⟨f0, f1⟩ := MKn.out w' hS; go_simp; (try with_reducible rfl)); (try simp only [Act.put, List.setIfInBounds_toArray, List.set_cons_succ, List.set_cons_zero]))
                  (refine wpG_quiet ?_ rfl (fun w' hS => ?_) ?_; rotate_left; (· obtain ⟨f0, f1⟩ := MKn.out w' hS; go_simp; (try with_reducible rfl)); (try simp only [Act.put, List.setIfInBounds_toArray, List.set_cons_succ, List.set_cons_zero]))
                  (refine wpG_quiet ?_ (by simp only [wantG, Option.bind_some, List.getElem?_toArray, List.getElem?_cons_succ, List.getElem?_cons_zero]; rfl) (fun w' hS => ?_) ?_; rotate_left; (· obtain ⟨f0, f1⟩ := MKn.out w' hS; go_simp; (try with_reducible rfl)); (try simp only [Act.put, List.setIfInBounds_toArray, List.set_cons_succ, List.set_cons_zero]))
                  (refine wpG_quiet ?_ (by simp only [wantG, Option.bind_some, List.getElem?_toArray, List.getElem?_cons_succ, List.getElem?_cons_zero]; rfl) (fun w' hS => ?_) ?_; rotate_left; (· obtain ⟨f0, f1⟩ := MKn.out w' hS; go_simp; (try with_reducible rfl)); (try simp only [Act.put, List.setIfInBounds_toArray, List.set_cons_succ, List.set_cons_zero]))
                  (refine wpG_quiet ?_ (by simp only [wantG, Option.bind_some, List.getElem?_toArray, List.getElem?_cons_succ, List.getElem?_cons_zero]; rfl) (fun w' hS => ?_) ?_; rotate_left; (· obtain ⟨f0, f1⟩ := MKn.out w' hS; go_simp; (try with_reducible rfl)); (try simp only [Act.put, List.setIfInBounds_toArray, List.set_cons_succ, List.set_cons_zero]))
                  (refine wpG_quiet ?_ (by simp only [wantG, Option.bind_some, List.getElem?_toArray, List.getElem?_cons_succ, List.getElem?_cons_zero]; rfl) (fun w' hS => ?_) ?_; rotate_left; (· obtain ⟨f0, f1⟩ := MKn.out w' hS; go_simp; (try with_reducible rfl)); (try simp only [Act.put, List.setIfInBounds_toArray, List.set_cons_succ, List.set_cons_zero]))
                  (refine wpG_quiet ?_ (by simp only [wantG, Option.bind_some, List.getElem?_toArray, List.getElem?_cons_succ, List.getElem?_cons_zero]; rfl) (fun w' hS => ?_) ?_; rotate_left; (· obtain ⟨f0, f1⟩ := MKn.out w' hS; go_simp; (try with_reducible rfl)); (try simp only [Act.put, List.setIfInBounds_toArray, List.set_cons_succ, List.set_cons_zero]))
                  (refine wpG_quiet ?_ (by simp only [wantG, Option.bind_some, List.getElem?_toArray, List.getElem?_cons_succ, List.getElem?_cons_zero]; rfl) (fun w' hS => ?_) ?_; rotate_left; (· obtain ⟨f0, f1⟩ := MKn.out w' hS; go_simp; (try with_reducible rfl)); (try simp only [Act.put, List.setIfInBounds_toArray, List.set_cons_succ, List.set_cons_zero]))
                  (refine wpG_quiet ?_ (by simp only [wantG, Option.bind_some, List.getElem?_toArray, List.getElem?_cons_succ, List.getElem?_cons_zero]; rfl) (fun w' hS => ?_) ?_; rotate_left; (· obtain ⟨f0, f1⟩ := MKn.out w' hS; go_simp; (try with_reducible rfl)); (try simp only [Act.put, List.setIfInBounds_toArray, List.set_cons_succ, List.set_cons_zero]))
                  (refine wpG_quiet ?_ (by simp only [wantG, Option.bind_some, List.getElem?_toArray, List.getElem?_cons_succ, List.getElem?_cons_zero]; rfl) (fun w' hS => ?_) ?_; rotate_left; (· obtain ⟨f0, f1⟩ := MKn.out w' hS; go_simp; (try with_reducible rfl)); (try simp only [Act.put, List.setIfInBounds_toArray, List.set_cons_succ, List.set_cons_zero]))
                  try simp only [hlt]
                  (refine wpG_quiet ?_ (by simp only [wantG, Option.bind_some, List.getElem?_toArray, List.getElem?_cons_succ, List.getElem?_cons_zero]; rfl) (fun w' hS => ?_) ?_; rotate_left; (· obtain ⟨f0, f1⟩ := MKn.out w' hS; go_simp; (try with_reducible rfl)); (try simp only [Act.put, List.setIfInBounds_toArray, List.set_cons_succ, List.set_cons_zero]))
                  refine wpG_nil ?_
                  go_wp2
                  refine NoPanic.normal ?_
                  go_wp2_with (refine wpList_store0 (MKb.out _ (HU8.out)).1 sizeBook rfl (size_best d (some b)) (one_book d tn tt) rfl (x := .tmp 4) (y := .tmp 62) rfl rfl rfl ?_; intro w9 hg9 hu9 hs9)
                  exact TRUE.out (hcnd) _ _ (HU8.out) hu9 hg9

      · have hne : (er == 0) = false := by simpa using he
        have HE := Lib.hid (HCE.out he)
        clear he HCE HCS
        go_wp2_with (refine wpList_store0 HG23.out sizeBook (size_best d none) (size_best d none) (one_best d none) rfl (x := .tmp 2) (y := .tmp 22) rfl rfl rfl ?_; intro w4 hg4 hu4 hs4)
        rw [HE.out]
        refine bodyPost_ret (results_row_tmp rfl _ _ n _ _ _ _ rfl hg4 Try.underlying71 rfl (by rw [size_best]; exact sizeBook) rfl) rfl ⟨rfl, S2, HI3.out.upd hu4 (fun k hk e => ?_), fun k hk => (HS2.out k hk).imp id (fun h => by have := HN.out; omega), ?_⟩
        · obtain rfl : k = n := e
          exact (HS2.out k hk).elim (fun h => by have := hSl _ h; omega) (fun h => by omega)
        · have hn := HN.out
          exact (HU0.out.of_no.trans HU03.out (fun k hk e => e.elim id (fun e => by omega))).trans hu4 (fun k hk e => by rw [show k = n from e] at hk; omega)
    · obtain rfl : k = 2 := by omega
      have HE := Lib.hid HC.out.done
      have hg2r : wr.heap[n]? = some (.cells (bestC d none) 71 (0, 0)) := I3.out.heap HG2.out (fun e => e.elim (fun h => by have := hSl _ h; omega) (fun h => by omega))
      have hend : ∀ (b2 : Option (Int × Int)) (W : World), Upd (OneS n) wr W → DskIn w W d Dc S := fun b2 W hu => by
        have hn := HN.out
        refine ⟨S1, I1.out.upd hu (fun k hk e => ?_), fun k hk => (I2.out k hk).imp id (fun h => by omega), ?_⟩
        · obtain rfl : k = n := e
          exact (I2.out k hk).elim (fun h => by have := hSl _ h; omega) (fun h => by omega)
        · exact (HU0.out.of_no.trans I3.out (fun k hk e => e.elim id (fun e => by omega))).trans hu (fun k hk e => by rw [show k = n from e] at hk; omega)
      have HEND := Lib.hid hend
      have HG2R := Lib.hid hg2r
      clear hend hg2r
      cases best with
      | none =>
        have q0 : wr.cell? ⟨n + 1, 0, none⟩ = some (.pointer none) := cell_at I4.out 0
        go_wp2_with (refine wpList_store0 HG2R.out sizeBook (size_best d none) (size_best d none) (one_best d none) rfl (x := .tmp 2) (y := .tmp 67) rfl rfl rfl ?_; intro w4 hg4 hu4 hs4)
        rw [HE.out]
        exact bodyPost_ret (results_row_tmp rfl _ _ n _ _ _ _ rfl hg4 Try.underlying71 rfl (by rw [size_best]; exact sizeBook) rfl) rfl ⟨rfl, HEND.out none _ hu4⟩
      | some b =>
        have q0 : wr.cell? ⟨n + 1, 0, none⟩ = some (.pointer (some ⟨d, 0, none⟩)) := cell_at I4.out 0
        go_wp2_with (first
          | (refine wpList_load0 I4.out Try.underlying71 rfl sizeBook (size_best d (some b)) rfl (x := .tmp 4) rfl rfl ?_)
          | (refine wpList_store0 HG2R.out sizeBook (size_best d (some b)) (size_best d none) (one_best d (some b)) rfl (x := .tmp 2) (y := .tmp 68) rfl rfl rfl ?_; intro w4 hg4 hu4 hs4))
        rw [HE.out]
        exact bodyPost_ret (results_row_tmp rfl _ _ n _ _ _ _ rfl hg4 Try.underlying71 rfl (by rw [size_best]; exact sizeBook) rfl) rfl ⟨rfl, HEND.out none _ hu4⟩
end Go.Proofs.Ytomgdfoahfhijaa
