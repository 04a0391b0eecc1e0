/- What came is told as it was when it was asked for (safehouselaw04.WalPicture): the walk. -/
import Derived.Test.YtomgdfoahfhijaaLiv
import Derived.Test.YtomgdfoahfhijaaGrl
set_option linter.unusedVariables false
set_option linter.unusedSimpArgs false
namespace Go.Proofs.Ytomgdfoahfhijaa
open Go.RowKit
attribute [local go_sem] Oper.semAt_some

theorem IsWal.walk {w w' : World} {p d m B : Nat} {D : Dk} {S : Nat → Prop} {L : Wl} {row : Option Nat} (h : IsWal w p d D S L) (hm : w.cell? ⟨d, 1, none⟩ = some (.map (some m))) (hB : m < B) (hg : w.grownBy w' row)
    (hr : ∀ r, row = some r → B ≤ r ∧ ∃ o : Obj, w.heap[r]? = some o ∧ o.isCells = false) : IsWal w' p d D S L ∧ w'.cell? ⟨d, 1, none⟩ = some (.map (some m)) := by
  obtain ⟨h1, h2, h3, vs, h4, vals, h5, h6, h7⟩ := h
  obtain ⟨g1, g2⟩ := disk_own h1 hm hB hg hr
  exact ⟨⟨g1, h2, h3, vs, cells_walk h4 hg hr, vals, h5.walk hg hr, h6, fun i v l hv hl => ⟨(h7 i v l hv hl).1.walk hg hr, (h7 i v l hv hl).2⟩⟩, g2⟩
def PicS (W8 : World) (p d : Nat) (S5 : Nat → Prop) (r : Nat) (Ds : List Nat) (W : World) : Prop :=
  ∃ D L S, IsWal W p d D S L ∧ Calmly D L ∧ L.turn ≤ 14 + 2000 * (r : Int) ∧ (∀ j, S j → S5 j ∨ W8.heap.size ≤ j) ∧ Upd (fun j => S5 j ∨ j = p) W8 W ∧ (∀ D ∈ Ds, W8.heap.size ≤ D ∧ D < W.heap.size ∧ ¬ S D ∧ W.heap[D]? = some (.deferred (some []))) ∧ Ds.Nodup
def dfrs (Ds : List Nat) : List Deferred := Ds.map fun D => { target := .collected D, args := #[] }
def PicI (Wb : World) (p d m : Nat) (S1 : Nat → Prop) (B r : Nat) (pre : List AllX) (W : World) : Prop :=
  ∃ D L S, IsWal W p d D S L ∧ Calmly D L ∧ L.turn ≤ 14 + 2000 * (r : Int) + (pre.length : Int) ∧ pre.length ≤ 1000 ∧ (∀ j, S j → S1 j ∨ Wb.heap.size ≤ j) ∧ Upd (fun j => S1 j ∨ j = p ∨ j = B + 1) Wb W ∧ W.heap[B + 1]? = some (.cells #[.int .i64 (pre.length : Int)] 3 (0, 0)) ∧
    W.cell? ⟨d, 1, none⟩ = some (.map (some m))
theorem picI_own {Wb : World} {p d m : Nat} {S1 : Nat → Prop} {B r : Nat} (hm : m < Wb.heap.size) : OwnFrom Wb.heap.size (PicI Wb p d m S1 B r) := fun s W W' row h hg hr => by
  obtain ⟨D, L, S, h1, h2, h3, h4, h5, h6, h7, h8⟩ := h
  obtain ⟨g1, g2⟩ := h1.walk h8 hm hg hr
  exact ⟨D, L, S, g1, h2, h3, h4, h5, h6.grown hg (fun k hk hlt => by have := (hr k hk).1; omega), cells_walk h7 hg hr, g2⟩
theorem IsWal.one {w w' : World} {p d g : Nat} {D : Dk} {S : Nat → Prop} {L : Wl} {cs : Array Value} {t : TypeId} {fr : Nat × Nat} (h : IsWal w p d D S L) (hg : w.heap[g]? = some (.cells cs t fr)) (h1 : t ≠ 35) (h2 : t ≠ 5) (hS : ¬ S g) (hp : g ≠ p) (hu : Upd (OneS g) w w') : IsWal w' p d D S L := by
  obtain ⟨g1, g2, g3, vs, g4, vals, g5, g6, g7⟩ := h
  exact ⟨g1.upd hu (fun k hk e => hS (by rw [show k = g from e] at hk; exact hk)), g2, g3, vs, hu.heap g4 (fun e => hp (Eq.symm e)), vals, g5.upd hu (g5.ne hg h1), g6, fun i v l hv hl => ⟨(g7 i v l hv hl).1.upd hu ((g7 i v l hv hl).1.ne hg h2), (g7 i v l hv hl).2⟩⟩
theorem Acc.one {w w' : World} {g : Nat} {v : Value} {l : List (List UInt8)} {T : Nat → Prop} {cs : Array Value} {t : TypeId} {fr : Nat × Nat} (h : Acc w v l T) (hg : w.heap[g]? = some (.cells cs t fr)) (h1 : t ≠ 35) (h2 : t ≠ 5) (hu : Upd (OneS g) w w') : Acc w' v l T := by
  obtain ⟨vals, g1, g2, g3⟩ := h
  exact ⟨vals, g1.upd hu (g1.ne hg h1), g2, fun i u b hv hb => ⟨(g3 i u b hv hb).1.upd hu ((g3 i u b hv hb).1.ne hg h2), (g3 i u b hv hb).2⟩⟩
theorem only_normal {K : Act → World → Prop} {a : Act} {w : World} (h : K a w) : OnlyN K .normal a w := h
theorem wal_cells {W : World} {p d m : Nat} {D : Dk} {S : Nat → Prop} {L : Wl} (h : IsWal W p d D S L) (hm : W.cell? ⟨d, 1, none⟩ = some (.map (some m))) {k : Nat} {o : Obj} (hk : S k ∨ k = p) (ho : W.heap[k]? = some o) (hne : k ≠ m) : o.isCells = true := by
  rcases hk with hk | rfl
  · obtain ⟨m', v, hS', hd', _, hv', _⟩ := h.disk
    have hcm : W.cell? ⟨d, 1, none⟩ = some (.map (some m')) := cell_at hd' 1
    rw [hm] at hcm
    have hmm : m = m' := by simpa using hcm
    rcases (hS' k).1 hk with rfl | rfl | h4
    · rw [hd'] at ho; cases ho; rfl
    · exact absurd hmm.symm hne
    · rcases hv'.2 with ⟨h5, _⟩ | ⟨g', cap, cur, h5, _, hgg, _⟩
      · rw [h5] at h4; cases h4
      · rw [h5] at h4; cases h4; rw [hgg] at ho; cases ho; rfl
  · obtain ⟨a, n, c, hc, _⟩ := h.cells
    rw [hc] at ho; cases ho; rfl
/-- j acts have been taken down at most. -/
def LivR (j : Nat) (D : Dk) (L : Wl) : Prop := j ≤ 14 ∧ Calmly D L ∧ L.turn ≤ (j : Int)
theorem take_calmly {D : Dk} {L : Wl} (h : Calmly D L) {k n : Int} {f : UInt8} (ht : L.turn ≤ 1000000) : Calmly (L.take D k n f).2.1 (L.take D k n f).2.2 ∧ (L.take D k n f).2.2.turn ≤ L.turn + 1 ∧ (L.take D k n f).2.2.n = L.n := by
  rcases take_calm h (k := k) (n := n) (f := f) ht with ⟨_, e⟩ | ⟨_, _, e⟩ | ⟨_, _, D', e, hc⟩
  · rw [e]; exact ⟨h, by show L.turn ≤ L.turn + 1; omega, rfl⟩
  · rw [e]; exact ⟨h, by show L.turn ≤ L.turn + 1; omega, rfl⟩
  · rw [e]
    refine ⟨hc, ?_, ?_⟩
    · show (if k % 8 = 3 then L.anew (actBytes n f) (sectorsOf (cntOf n)) else L.more (actBytes n f) (sectorsOf (cntOf n))).turn ≤ L.turn + 1
      split
      · exact Int.le_refl _
      · show L.turn ≤ L.turn + 1; omega
    · show (if k % 8 = 3 then L.anew (actBytes n f) (sectorsOf (cntOf n)) else L.more (actBytes n f) (sectorsOf (cntOf n))).n = L.n
      split <;> rfl
theorem livR_step (j : Nat) (D : Dk) (L : Wl) (k n : Int) (f : UInt8) (h : LivR j D L) (hj : j < 14) : LivR (j + 1) (L.take D k n f).2.1 (L.take D k n f).2.2 := by
  obtain ⟨h1, h2, h3⟩ := h
  obtain ⟨g1, g2, _⟩ := take_calmly h2 (k := k) (n := n) (f := f) (by omega)
  exact ⟨by omega, g1, by omega⟩
set_option maxRecDepth 100000 in
set_option maxHeartbeats 4000000 in
theorem walPictureIs (w : World) (v : Value) (xs : List Ac) (hxs : IsActs w v xs) (k n : Int) (f : UInt8) (ka : Option Addr) (km kc : Nat) (far : Int) : Calls Try.prog 6 #[v, actV k n f (.slice ka km kc), .int .i64 far] w fun e w' => e = .returned (.bool true) ∧ Upd NoS w w' := by
  have HX := Lib.hid hxs
  obtain ⟨av, cv, rfl, hlc, hcm⟩ := hxs.shape
  unfold maxLen at hcm
  unfold actV
  clear hxs
  refine calls_of_wp_marks (fn := Try.f6) Try.func6 rfl ?_
  simp only [Try.ntmps6, List.size_toArray, List.length_cons, List.length_nil, Nat.reduceAdd, Nat.reduceSub, Array.replicate_succ, Array.replicate_zero, List.push_toArray, List.append_toArray, List.nil_append, List.cons_append]
  go_wp2_with (go_at_call 9; refine halted ?_)
  unfold Halted
  refine calls_name ?_
  intro W1 hW1
  obtain ⟨N, hN⟩ : ∃ N, N = w.heap.size := ⟨_, rfl⟩
  have hu1 : Upd NoS w W1 := by rw [hW1]; exact (((Upd.refl NoS w).alloc _).alloc _).alloc _
  have hb0 : W1.heap[N]? = some (.cells #[.int .i64 k, .int .i64 n, .int .u8 (f.toNat : Int), .slice ka km kc] 33 (0, 0)) := by rw [hW1, hN]; exact heap_old (heap_old (heap_new _ _))
  have hb1 : W1.heap[N + 1]? = some (.cells #[.int .i64 far] 3 (0, 0)) := by rw [hW1, hN]; exact heap_old (heap_new' (by simp))
  have hb2 : W1.heap[N + 1 + 1]? = some (.cells #[.bool false] 4 (0, 0)) := by rw [hW1, hN]; exact heap_new' (by simp)
  rw [← hN]
  clear hW1
  refine (wakesIs W1).mono ?_
  rintro e2 w2 ⟨rfl, hu2⟩
  have HU2 := Lib.hid (hu1.tr hu2)
  have HB0 := Lib.hid (hu2.heap hb0 id)
  have HB1 := Lib.hid (hu2.heap hb1 id)
  have HB2 := Lib.hid (hu2.heap hb2 id)
  have HN := Lib.hid hN
  clear hN hu1 hu2 hb0 hb1 hb2
  go_wp2_with (go_at_call 13; refine halted ?_)
  unfold Halted
  refine (lawFresh w2 22 (by decide) (by decide)).mono ?_
  rintro e3 w3 ⟨p, d, rfl, S0, hI3, hS3, hp3, hu3⟩
  have HI3 := Lib.hid hI3
  have HS3 := Lib.hid hS3
  have HU3 := Lib.hid hu3
  clear hI3 hS3 hu3
  go_wp2_with (go_at_call 29; refine halted ?_)
  unfold Halted
  refine calls_name ?_
  intro W4 hW4
  obtain ⟨b8, hb8⟩ : ∃ b8, b8 = w3.heap.size := ⟨_, rfl⟩
  have hu4 : Upd NoS w3 W4 := by rw [hW4]; exact (Upd.refl NoS w3).alloc _
  have hg4 : W4.heap[b8]? = some (.cells #[.pointer (some ⟨p, 0, none⟩)] 27 (0, 0)) := by rw [hW4, hb8]; exact heap_new _ _
  have h8 : w3.heap.size ≤ b8 := by omega
  rw [← hb8]
  have HU4 := Lib.hid hu4
  have HG4 := Lib.hid hg4
  clear hW4 hb8 hu4 hg4
  have hcalm := freshCalmly (n := 22) (by decide) (by decide)
  refine (livedIs W4 p d _ S0 _ (HI3.out.updNo HU4.out) _ xs (fun W hu => HX.out.upd (((HU2.out.tr HU3.out).tr HU4.out).trans hu (fun j hj e => by
    have h1 := HU2.out.size
    rcases e with e | e
    · have := HS3.out j e; omega
    · omega))) LivR ⟨by omega, hcalm, by show (0 : Int) ≤ ((0 : Nat) : Int); omega⟩ (fun j D L h => h.2) (fun j D L k n f h hj _ _ => livR_step j D L k n f h hj)).mono ?_
  rintro e5 w5 ⟨v5, rfl, j5, D5, L5, S5, hR5, hI5, hS5, hu5, hacc5⟩
  obtain ⟨a5, c5, rfl, hl5, _, hg5⟩ := hacc5.shape
  have hlt3 := HI3.out.disk.lt
  have hp3l := HI3.out.ltp
  have hb8ne : ¬ (S0 b8 ∨ b8 = p) := fun e => by
    rcases e with e | e
    · have := hlt3 b8 e; omega
    · omega
  have hg58 := hu5.heap HG4.out hb8ne
  have hold : ∀ j o, j < w2.heap.size → w2.heap[j]? = some o → w5.heap[j]? = some o := fun j o hj ho => hu5.heap ((HU3.out.tr HU4.out).heap ho id) (fun e => by
    rcases e with e | e
    · have := HS3.out j e; omega
    · omega)
  have hg50 := hold N _ (lt_of_heap HB0.out) HB0.out
  have hg51 := hold (N + 1) _ (lt_of_heap HB1.out) HB1.out
  have hg52 := hold (N + 1 + 1) _ (lt_of_heap HB2.out) HB2.out
  have q8 := cell_at (heap_old (o' := .cells #[.slice a5 L5.said.length c5] 51) hg58) 0
  simp only [List.getElem?_toArray, List.getElem?_cons_zero] at q8
  have HR5 := Lib.hid hR5
  have HI5 := Lib.hid hI5
  have HS5 := Lib.hid hS5
  have HU5 := Lib.hid hu5
  have HACC5 := Lib.hid hacc5
  have HG5 := Lib.hid hg5
  have HG58 := Lib.hid hg58
  have HG50 := Lib.hid hg50
  have HG51 := Lib.hid hg51
  have HG52 := Lib.hid hg52
  clear hR5 hI5 hS5 hu5 hacc5 hcalm hg5 hlt3 hb8ne hg58 hold hg50 hg51 hg52
  go_wp2_with (go_at_call 23; refine halted ?_)
  unfold Halted
  refine calls_name ?_
  intro W6 hW6
  obtain ⟨b9, hb9⟩ : ∃ b9, b9 = w5.heap.size := ⟨_, rfl⟩
  have hu6 : Upd NoS w5 W6 := by rw [hW6]; exact (Upd.refl NoS w5).alloc _
  have hg69 : W6.heap[b9]? = some (.cells #[.slice a5 L5.said.length c5] 51 (0, 0)) := by rw [hW6, hb9]; exact heap_new _ _
  have hz6 : W6.heap.size = b9 + 1 := by rw [hW6, hb9]; simp
  have hb9' : w5.heap.size ≤ b9 := by omega
  rw [← hb9]
  have HU6 := Lib.hid hu6
  have HG69 := Lib.hid hg69
  have HB9 := Lib.hid hb9
  clear hW6 hu6 hg69 hb9
  refine (walAll w5 W6 p d D5 S5 L5 HI5.out HU6.out).mono ?_
  rintro e7 w7 ⟨rfl, hall, hu7, hz7⟩
  rw [hz6] at hall hz7 ⊢
  obtain ⟨vs, vals, hb1, hrd, hvs, hvl⟩ := hall
  have HU7 := Lib.hid hu7
  have hg751 := hu7.heap (HU6.out.heap HG51.out id) id
  have q51 := cell_at hg751 0
  have f51 := free_at hg751 0
  simp only [List.getElem?_toArray, List.getElem?_cons_zero] at q51
  have HB1' := Lib.hid hb1
  have HRD := Lib.hid hrd
  have HVS := Lib.hid hvs
  have HVL := Lib.hid hvl
  have HZ7 := Lib.hid hz7
  have HG751 := Lib.hid hg751
  clear hb1 hrd hvs hvl hu7 hz7 hg751 q8
  go_wp2
  refine wp_name ?_
  intro W8 hW8
  obtain ⟨FR, hFR⟩ : ∃ FR, FR = wrap64 ((IntKind.u64.wrap far).tmod 6) := ⟨_, rfl⟩
  rw [← hFR] at hW8 ⊢
  have hset : Upd (OneS (N + 1)) w7 W8 := by rw [hW8]; exact (Upd.refl _ w7).setCell _ _ (fun _ => rfl)
  have hN2 := lt_of_heap HB2.out
  have hw23 := HU3.out.size
  have hw34 := HU4.out.size
  have hw45 := HU5.out.size
  have hw56 := HU6.out.size
  have hw67 := HU7.out.size
  have hw78 := hset.size
  have hz8 : W8.heap.size = w7.heap.size := by rw [hW8]; simp [World.setCell]
  have g51 : W8.heap[N + 1]? = some (.cells #[.int .i64 FR] 3 (0, 0)) := by rw [hW8]; exact heap_set HG751.out 0 _
  have HFR := Lib.hid hFR
  clear hW8 hFR
  have hu57 : Upd NoS w5 w7 := HU6.out.tr HU7.out
  have g50 := hset.heap (hu57.heap HG50.out id) (show ¬ OneS (N + 1) N by unfold OneS; omega)
  have g52 := hset.heap (hu57.heap HG52.out id) (show ¬ OneS (N + 1) (N + 1 + 1) by unfold OneS; omega)
  have g58 := hset.heap (hu57.heap HG58.out id) (show ¬ OneS (N + 1) b8 by unfold OneS; omega)
  have g59 := hset.heap (HU7.out.heap HG69.out id) (show ¬ OneS (N + 1) b9 by unfold OneS; omega)
  have g5b := hset.heap HB1'.out (show ¬ OneS (N + 1) (b9 + 1) by unfold OneS; omega)
  have hrd8 := HRD.out.upd hset (HRD.out.ne HG751.out (by decide))
  have hvl8 : ∀ (i : Nat) (u : Value) (l : List UInt8), vals[i]? = some u → (L5.said.drop 1)[i]? = some l → Rd W8 5 1 u l.length (bvs l) ∧ ∀ k, u.ownBlock = some k → ¬ (S5 k ∨ k = p) ∧ k < w5.heap.size := fun i u l hu hl => by
    obtain ⟨h1, h2⟩ := HVL.out i u l hu hl
    exact ⟨h1.upd hset (h1.ne HG751.out (by decide)), h2⟩
  have hacc8 : Acc W8 (.slice a5 L5.said.length c5) L5.said (fun j => ¬ (S5 j ∨ j = p)) := by
    have h1 := (HACC5.out.updNo hu57).upd hset (fun j _ h e => by have := h.1; rw [show j = N + 1 from e] at this; omega)
    exact h1.mono (fun j _ h e => by
      rcases e with e | e
      · exact h.2 e
      · have := HI3.out.ltp; have := h.1; omega)
  have hS5l := HI5.out.disk.lt
  have hp5 : p < w3.heap.size := HI3.out.ltp
  have hS5g : ∀ j, S5 j → w2.heap.size ≤ j := fun j hj => by
    rcases HS5.out j hj with h | h
    · exact HS3.out j h
    · omega
  have hnb8 : ¬ (S5 b8 ∨ b8 = p) := fun e => by
    rcases e with e | e
    · rcases HS5.out b8 e with h | h
      · have := HI3.out.disk.lt b8 h; omega
      · have := lt_of_heap HG4.out; omega
    · omega
  have hnb9 : ¬ (S5 b9 ∨ b9 = p) := fun e => by
    rcases e with e | e
    · have := hS5l b9 e; omega
    · omega
  have hnbb : ¬ (S5 (b9 + 1) ∨ b9 + 1 = p) := fun e => by
    rcases e with e | e
    · have := hS5l _ e; omega
    · omega
  have hold : ∀ j, j ≤ N + 1 + 1 → ¬ (S5 j ∨ j = p) := fun j hj e => by
    rcases e with e | e
    · have := hS5g j e; omega
    · omega
  have MK : Hid (∀ W, Upd (fun j => S5 j ∨ j = p) W8 W → W.heap[N]? = some (.cells #[.int .i64 k, .int .i64 n, .int .u8 (f.toNat : Int), .slice ka km kc] 33 (0, 0)) ∧ W.heap[N + 1]? = some (.cells #[.int .i64 FR] 3 (0, 0)) ∧ W.heap[N + 1 + 1]? = some (.cells #[.bool false] 4 (0, 0)) ∧
      W.heap[b8]? = some (.cells #[.pointer (some ⟨p, 0, none⟩)] 27 (0, 0)) ∧ W.heap[b9]? = some (.cells #[.slice a5 L5.said.length c5] 51 (0, 0)) ∧ W.heap[b9 + 1]? = some (.cells #[vs] 51 (0, 0)) ∧ Acc W (.slice a5 L5.said.length c5) L5.said (fun j => ¬ (S5 j ∨ j = p)) ∧
      Rd W 35 1 vs (L5.said.drop 1).length vals ∧ ∀ (i : Nat) (u : Value) (l : List UInt8), vals[i]? = some u → (L5.said.drop 1)[i]? = some l → Rd W 5 1 u l.length (bvs l)) := Lib.hid fun W hu =>
    ⟨hu.heap g50 (hold _ (by omega)), hu.heap g51 (hold _ (by omega)), hu.heap g52 (hold _ (by omega)), hu.heap g58 hnb8, hu.heap g59 hnb9, hu.heap g5b hnbb, hacc8.upd hu (fun j _ h e => h e), hrd8.upd hu (fun j hj e => (HVS.out j hj).1 e), fun i u l hv hl => (hvl8 i u l hv hl).1.upd hu (fun j hj e => ((hvl8 i u l hv hl).2 j hj).1 e)⟩
  have HKB : Hid (∀ j, AllK (b9 + 1) vs vals j → j < W8.heap.size ∧ ¬ (S5 j ∨ j = p)) := Lib.hid fun j hj => by
    rcases hj with e | e | ⟨u, hm, e⟩
    · rw [e]; exact ⟨lt_of_heap g5b, hnbb⟩
    · have := HVS.out j e; exact ⟨by omega, this.1⟩
    · obtain ⟨i, hi⟩ := List.getElem?_of_mem hm
      have hvl2 : vals.length = (L5.said.drop 1).length := by simpa using hrd8.1
      have hlt := (List.getElem?_eq_some_iff.1 hi).1
      have := (hvl8 i u _ hi (List.getElem?_eq_getElem (by omega))).2 j e
      exact ⟨by omega, this.1⟩
  have hR5 := HR5.out
  have hS0 : PicS W8 p d S5 0 [] W8 := ⟨D5, L5, S5, (HI5.out.updNo hu57).one HG751.out (by decide) (by decide) (fun e => hold (N + 1) (by omega) (.inl e)) (fun e => hold (N + 1) (by omega) (.inr e)) hset, hR5.2.1, by have := hR5.2.2; have := hR5.1; omega, fun j hj => .inl hj, Upd.refl _ _, by simp, by simp⟩
  have HS0 := Lib.hid hS0
  have HSET := Lib.hid hset
  have HU57 := Lib.hid hu57
  have hokl := hR5.2.1.ok
  have hs0 : 1 ≤ L5.said.length := hokl.s0
  clear hset g50 g51 g52 g58 g59 g5b hrd8 hvl8 hacc8 hS5l hS5g hnb8 hnb9 hnbb hold hS0 hR5 hu57 q51 f51
  obtain ⟨Fr, hFr⟩ : ∃ Fr : (Nat → Value) → Nat → List Nat → Act, Fr = fun u r Ds => { tmps := #[.slice av xs.length cv, .agg #[.int .i64 k, .int .i64 n, .int .u8 (f.toNat : Int), .slice ka km kc], .int .i64 far, undef, .pointer (some ⟨N, 0, none⟩), .pointer (some ⟨N + 1, 0, none⟩), .pointer (some ⟨N + 1 + 1, 0, none⟩), .pointer (some ⟨d, 0, none⟩), .pointer (some ⟨b8, 0, none⟩), .pointer (some ⟨b9, 0, none⟩), .bool true, .func (.func 50) #[] #[.pointer (some ⟨b9 + 1, 0, none⟩)], u 12, u 13, u 14, u 15, .bool true, .bool false, .tuple #[.pointer (some ⟨d, 0, none⟩), .pointer (some ⟨p, 0, none⟩)], .tuple #[.pointer (some ⟨d, 0, none⟩), .pointer (some ⟨p, 0, none⟩)], .pointer (some ⟨d, 0, none⟩), .pointer (some ⟨p, 0, none⟩), .pointer (some ⟨p, 0, none⟩), .bool false, .tuple #[.slice a5 L5.said.length c5, .bool true], .pointer (some ⟨p, 0, none⟩), .slice av xs.length cv, .tuple #[.slice a5 L5.said.length c5, .bool true], .slice a5 L5.said.length c5, .bool true, .bool true, .bool false, .pointer (some ⟨p, 0, none⟩), .func (.func 50) #[] #[.pointer (some ⟨b9 + 1, 0, none⟩)], .int .i64 far, .int .u64 (IntKind.u64.wrap far), .int .u64 ((IntKind.u64.wrap far).tmod 6), .int .i64 FR, .int .i64 (r : Int), u 39, u 40, u 41, u 42, u 43, u 44, u 45, u 46, u 47, u 48, u 49, u 50, u 51, u 52, u 53, u 54, u 55, u 56, u 57, u 58, u 59, u 60, u 61, u 62, u 63, u 64, u 65, u 66, u 67, u 68, u 69, u 70, u 71, u 72, u 73, u 74, u 75, u 76, u 77, u 78, u 79, u 80, u 81, u 82, u 83, u 84], defers := dfrs Ds } := ⟨_, rfl⟩
  refine wp_loop (fun a W => ∃ (r : Nat) (Ds : List Nat), r ≤ 3 ∧ Ds.length = r ∧ PicS W8 p d S5 r Ds W ∧ a = Fr (fun i => a.tmps.getD i undef) r Ds) (fun a _ => 3 - (intOf (a.tmps.getD 38 undef)).toNat) ?start ?round
  case start => exact ⟨0, [], by omega, rfl, HS0.out, by rw [hFr]; rfl⟩
  case round =>
    rintro a wr ⟨r, Ds, hr, hDl, hI, ha⟩
    obtain ⟨u, hu⟩ : ∃ u : Nat → Value, u = fun i => a.tmps.getD i undef := ⟨_, rfl⟩
    rw [← hu] at ha
    clear hu
    subst ha
    have HFr := Lib.hid hFr
    rw [hFr]
    simp only
    clear hFr
    by_cases hlt : r < 3
    · obtain ⟨D1, L1, S1, hW1, hc1, ht1, hS1, hu1, hD1, hnd⟩ := hI
      have HW1 := Lib.hid hW1
      have HC1 := Lib.hid hc1
      have HS1 := Lib.hid hS1
      have HU1 := Lib.hid hu1
      have HD1 := Lib.hid hD1
      have HND := Lib.hid hnd
      have HDL := Lib.hid hDl
      obtain ⟨m, hmS, hmc⟩ : ∃ m, S1 m ∧ wr.cell? ⟨d, 1, none⟩ = some (.map (some m)) := by
        obtain ⟨m, v, hS, hd, _⟩ := hW1.disk
        exact ⟨m, (hS m).2 (.inr (.inl rfl)), cell_at hd 1⟩
      have HMC := Lib.hid hmc
      have hmw := hW1.disk.lt m hmS
      have hrl : (r : Int) < 3 := by omega
      clear hW1 hc1 hS1 hu1 hD1 hnd hDl hmc
      go_wp2
      refine wp_name ?_
      intro Wb hWb
      obtain ⟨B, hB⟩ : ∃ B, B = wr.heap.size := ⟨_, rfl⟩
      have hub : Upd NoS wr Wb := by rw [hWb]; exact ((Upd.refl NoS wr).alloc _).alloc _
      have hB0 : Wb.heap[B]? = some (.cells #[.int .i64 (r : Int)] 3 (0, 0)) := by rw [hWb, hB]; exact heap_old (heap_new _ _)
      have hB1 : Wb.heap[B + 1]? = some (.cells #[.int .i64 0] 3 (0, 0)) := by rw [hWb, hB]; exact heap_new' (by simp)
      have hzb : Wb.heap.size = B + 2 := by rw [hWb, hB]; simp
      rw [← hB]
      have HB := Lib.hid hB
      clear hWb
      have hw8r := HU1.out.size
      have hnB : ∀ j, B ≤ j → ¬ S1 j ∧ j ≠ p := fun j hj => ⟨fun e => by have := HW1.out.disk.lt j e; omega, fun e => by have := HW1.out.ltp; omega⟩
      have hub8 : Upd (fun j => S5 j ∨ j = p) W8 Wb := HU1.out.trNo hub
      obtain ⟨m0, m1, m2, m3, m4, m5, macc, mrd, mvl⟩ := MK.out Wb hub8
      have hcl5 : (L5.said.drop 1).length ≤ 1000 := by
        have h1 := hokl.s1; have h2 := hokl.f1; have h3 := hokl.n1
        rw [List.length_drop]; omega
      have hgives := allGives Wb (b9 + 1) vs vals (L5.said.drop 1) m5 mrd hcl5 (fun i u l hu hl => ⟨mvl i u l hu hl, hokl.each l (List.mem_of_mem_drop (List.mem_of_getElem? hl))⟩)
      have hI0 : PicI Wb p d m S1 B r [] Wb := ⟨D1, L1, S1, HW1.out.updNo hub, HC1.out, by simpa using ht1, by simp, fun j hj => .inl hj, Upd.refl _ _, hB1, (sameMap_upd HW1.out.disk hub id).trans HMC.out⟩
      have HGV := Lib.hid hgives
      have HUB := Lib.hid hub
      have HUB8 := Lib.hid hub8
      have HZB := Lib.hid hzb
      have HB0' := Lib.hid hB0
      have HI0 := Lib.hid hI0
      have HNB := Lib.hid hnB
      clear hgives hub hub8 hzb hB0 hI0 hnB m0 m1 m2 m3 m4 m5 macc mrd mvl hB hB1
      have huW : Hid (∀ W, Upd (fun j => S1 j ∨ j = p ∨ j = B + 1) Wb W → Upd (fun j => S5 j ∨ j = p) W8 W) := Lib.hid fun W hu => HUB8.out.trans hu (fun j hj e => by
        have h1 := HB.out
        rcases e with e | e | e
        · rcases HS1.out j e with h | h
          · exact .inl h
          · omega
        · exact .inr e
        · omega)
      have hend : Hid (∀ (D : Nat) (pre : List AllX) (W : World), Wb.heap.size ≤ D → PicI Wb p d m S1 B r pre W → W.heap[D]? = some (.deferred (some [])) → PicS W8 p d S5 (r + 1) (D :: Ds) W) := Lib.hid fun D pre W hD hI hDk => by
        obtain ⟨D2, L2, S2, h1, h2, h3, h4, h5, h6, h7, h8⟩ := hI
        have hw8 := HU1.out.size
        have hwb := HUB.out.size
        refine ⟨D2, L2, S2, h1, h2, by omega, fun j hj => ?_, huW.out W h6, fun D' hD' => ?_, List.nodup_cons.2 ⟨fun hm => ?_, HND.out⟩⟩
        · rcases h5 j hj with h | h
          · exact HS1.out j h
          · exact .inr (by omega)
        · rcases List.mem_cons.1 hD' with rfl | hD'
          · refine ⟨by omega, lt_of_heap hDk, fun e => ?_, hDk⟩
            have := wal_cells h1 h8 (.inl e) hDk (by omega)
            cases this
          · obtain ⟨g1, g2, g3, g4⟩ := HD1.out D' hD'
            refine ⟨g1, by have := h6.size; omega, fun e => ?_, h6.heap (HUB.out.heap g4 id) (fun e => ?_)⟩
            · rcases h5 D' e with h | h
              · exact g3 h
              · omega
            · have hb := HB.out
              rcases e with e | e | e
              · exact g3 e
              · have := HI3.out.ltp; omega
              · omega
        · have := (HD1.out D hm).2.1
          omega
      have hBne : ¬ (S1 B ∨ B = p ∨ B = B + 1) := fun e => by
        have h := HNB.out B (Nat.le_refl _)
        rcases e with e | e | e
        · exact h.1 e
        · exact h.2 e
        · omega
      refine wp_rangeGives rfl (by kernel_rfl) HGV.out (fun j hj => by have h1 := (HKB.out j hj).1; have := HUB.out.size; omega) (fun x => rfl) (PicI Wb p d m S1 B r) (fun c pre W => PicI Wb p d m S1 B r pre W ∧ c = .exit 2 ∧ r = 1)
        (picI_own (by have := HUB.out.size; omega)) (fun c s W W' row h hg hr => ⟨picI_own (by have := HUB.out.size; omega) s W W' row h.1 hg hr, h.2⟩) HI0.out
        (fun pre x a' W => (x.1 = (pre.length : Int) + 1 ∧ ∃ l, (L5.said.drop 1)[pre.length]? = some l ∧ x.2.2.1 = l.length ∧ Rd W 5 1 (.slice x.2.1 x.2.2.1 x.2.2.2) l.length (bvs l)) ∧ a' = { tmps := #[.slice av xs.length cv, .agg #[.int .i64 k, .int .i64 n, .int .u8 (f.toNat : Int), .slice ka km kc], .int .i64 far, undef, .pointer (some ⟨N, 0, none⟩), .pointer (some ⟨N + 1, 0, none⟩), .pointer (some ⟨N + 1 + 1, 0, none⟩), .pointer (some ⟨d, 0, none⟩), .pointer (some ⟨b8, 0, none⟩), .pointer (some ⟨b9, 0, none⟩), .bool true, .func (.func 50) #[] #[.pointer (some ⟨b9 + 1, 0, none⟩)], .pointer (some ⟨B, 0, none⟩), .pointer (some ⟨B + 1, 0, none⟩), .int .i64 x.1, .slice x.2.1 x.2.2.1 x.2.2.2, .bool true, .bool false, .tuple #[.pointer (some ⟨d, 0, none⟩), .pointer (some ⟨p, 0, none⟩)], .tuple #[.pointer (some ⟨d, 0, none⟩), .pointer (some ⟨p, 0, none⟩)], .pointer (some ⟨d, 0, none⟩), .pointer (some ⟨p, 0, none⟩), .pointer (some ⟨p, 0, none⟩), .bool false, .tuple #[.slice a5 L5.said.length c5, .bool true], .pointer (some ⟨p, 0, none⟩), .slice av xs.length cv, .tuple #[.slice a5 L5.said.length c5, .bool true], .slice a5 L5.said.length c5, .bool true, .bool true, .bool false, .pointer (some ⟨p, 0, none⟩), .func (.func 50) #[] #[.pointer (some ⟨b9 + 1, 0, none⟩)], .int .i64 far, .int .u64 (IntKind.u64.wrap far), .int .u64 ((IntKind.u64.wrap far).tmod 6), .int .i64 FR, .int .i64 (r : Int), .bool true, .int .i64 (r : Int), .func (.func 50) #[] #[.pointer (some ⟨b9 + 1, 0, none⟩)], .int .i64 x.1, .slice x.2.1 x.2.2.1 x.2.2.2, u 44, u 45, u 46, u 47, u 48, u 49, u 50, u 51, u 52, u 53, u 54, u 55, u 56, u 57, u 58, u 59, u 60, u 61, u 62, u 63, u 64, u 65, u 66, u 67, u 68, u 69, u 70, u 71, u 72, u 73, u 74, u 75, u 76, u 77, u 78, u 79, u 80, u 81, u 82, u 83, u 84], defers := [] })
        (fun pre x a' s W W' row h hg hr => by
          obtain ⟨⟨h0, l, h1, h2, h3⟩, h4⟩ := h
          exact ⟨⟨h0, l, h1, h2, h3.walk hg hr⟩, h4⟩) ?assign ?body ?done ?stop
      case assign =>
        rintro l pre x W K' hI hG hK'
        simp only [encA]
        have HI := Lib.hid hI
        have HG := Lib.hid hG
        clear hI hG
        gi_wp2
        obtain ⟨hx1, b, hx2, hx3, hx4, hx5⟩ := HG.out
        exact hK' _ _ (keepsOf (Upd.refl NoS W) (fun _ _ h => h.elim)) (fun k hk => rfl) HI.out ⟨⟨hx1, b, hx2, hx3, by rw [← hx3]; rw [hx3] at hx4 ⊢; exact hx4⟩, rfl⟩
      case body =>
        rintro l pre x a' W hl hrc hI ⟨⟨hx1, b, hb1, hb2, hb3⟩, rfl⟩
        obtain ⟨D2, L2, S2, hW2, hc2, ht2, hp2, hS2, hu2, hB2, hmc2⟩ := hI
        obtain ⟨x1, xa, xn, xc⟩ := x
        simp only at hx1 hb2 hb3 ⊢
        subst hx1 hb2
        obtain ⟨m0, m1, m2, m3, m4, m5, macc, mrd, mvl⟩ := MK.out W (huW.out W hu2)
        have hlt2 : pre.length + 1 < L5.said.length := by have := (List.getElem?_eq_some_iff.1 hb1).1; rw [List.length_drop] at this; omega
        have hsd : L5.said[pre.length + 1]? = some b := by rw [List.getElem?_drop] at hb1; rw [← hb1]; congr 1; omega
        have hWB := HB.out
        have hbr : B < wr.heap.size + 1 := by omega
        have hBne' : ¬ (S1 B ∨ B = p ∨ B = B + 1) := fun e => by
          have h := HNB.out B (Nat.le_refl _)
          rcases e with e | e | e
          · exact h.1 e
          · exact h.2 e
          · omega
        have hb0 := hu2.heap HB0'.out hBne'
        obtain ⟨W', hW'⟩ : ∃ W', W' = W.setCell ⟨B + 1, 0, none⟩ (.int .i64 ((pre.length : Int) + 1)) := ⟨_, rfl⟩
        have hset' : Upd (OneS (B + 1)) W W' := by rw [hW']; exact (Upd.refl _ W).setCell _ _ (fun _ => rfl)
        have hB2' : W'.heap[B + 1]? = some (.cells #[.int .i64 ((pre.length : Int) + 1)] 3 (0, 0)) := by rw [hW']; exact heap_set hB2 0 _
        have h8r := HU1.out.size
        have hNN : ∀ j, j < W8.heap.size → ¬ OneS (B + 1) j := fun j hj => by unfold OneS; omega
        have l0 := hset'.heap m0 (hNN _ (by have := HB0.out; have := lt_of_heap HB0.out; omega))
        have l1 := hset'.heap m1 (hNN _ (by have := lt_of_heap HB1.out; omega))
        have l3 := hset'.heap m3 (hNN _ (by have := lt_of_heap HG4.out; omega))
        have l4 := hset'.heap m4 (hNN _ (by have := lt_of_heap HG69.out; omega))
        have lb := hset'.heap hb0 (show ¬ OneS (B + 1) B by unfold OneS; omega)
        obtain ⟨g5, o5, rfl⟩ := HG5.out (by omega)
        obtain ⟨ae, ce, qe, re, _⟩ := macc.at hsd
        have re' := re.upd hset' (re.ne hB2 (by decide))
        have hb3' := hb3.upd hset' (hb3.ne hB2 (by decide))
        have hacc' := macc.one hB2 (by decide) (by decide) hset'
        have hg5B : g5 ≠ B + 1 := by
          obtain ⟨vl5, r5, _⟩ := macc
          have := r5.ne hB2 (by decide) g5 rfl
          exact this
        have c0 := cell_at m0 0
        have c1 := cell_at m0 1
        have c2 := cell_at m0 2
        have c3 := cell_at m0 3
        have q1 := cell_at m1 0
        have q8 := cell_at m3 0
        have q9 := cell_at m4 0
        have qB := cell_at hb0 0
        have qC := cell_at hB2 0
        have fC := free_at hB2 0
        simp only [List.getElem?_toArray, List.getElem?_cons_zero, List.getElem?_cons_succ] at c0 c1 c2 c3 q1 q8 q9 qB qC
        have hNl := lt_of_heap HB0.out
        have hN1l := lt_of_heap HB1.out
        have hb8l := lt_of_heap HG4.out
        have hb9l := lt_of_heap HG69.out
        have n1 : ¬ B + 1 = N := by omega
        have n2 : ¬ B = N := by omega
        have n3 : ¬ B + 1 = b8 := by omega
        have n4 : ¬ B + 1 = b9 := by omega
        have n5 : ¬ B + 1 = g5 := fun e => hg5B e.symm
        have n6 : ¬ N = B + 1 := by omega
        have n7 : ¬ N = B := by omega
        have n8 : ¬ b8 = B + 1 := by omega
        have n9 : ¬ b9 = B + 1 := by omega
        have hE : eqL b b = true := (eqL_iff _ _).2 rfl
        have hlti : (pre.length : Int) + 1 < (L5.said.length : Int) := by omega
        have hMK2 : Hid (∀ w2, Upd NoS W' w2 → w2.cell? ⟨b8, 0, none⟩ = some (.pointer (some ⟨p, 0, none⟩)) ∧ w2.cell? ⟨N, 0, none⟩ = some (.int .i64 k) ∧ w2.cell? ⟨N, 1, none⟩ = some (.int .i64 n) ∧ w2.cell? ⟨N, 2, none⟩ = some (.int .u8 (f.toNat : Int)) ∧ w2.cell? ⟨N, 3, none⟩ = some (.slice ka km kc)) :=
          Lib.hid fun w2 hu => ⟨cell_at (hu.heap l3 id) 0, cell_at (hu.heap l0 id) 0, cell_at (hu.heap l0 id) 1, cell_at (hu.heap l0 id) 2, cell_at (hu.heap l0 id) 3⟩
        have hnC : ¬ S2 (B + 1) ∧ B + 1 ≠ p := ⟨fun e => by
          rcases hS2 _ e with h | h
          · exact (HNB.out (B + 1) (by omega)).1 h
          · have := HZB.out; omega, (HNB.out (B + 1) (by omega)).2⟩
        have hW2' := hW2.one hB2 (by decide) (by decide) hnC.1 hnC.2 hset'
        have HW2 := Lib.hid hW2'
        have HW20 := Lib.hid hW2
        have HMC20 := Lib.hid hmc2
        have HB20 := Lib.hid hB2
        have HU20 := Lib.hid hu2
        have HC2 := Lib.hid hc2
        have HS2 := Lib.hid hS2
        have HU2' := Lib.hid (hu2.trans hset' (fun j hj e => .inr (.inr e)))
        have HUWW := Lib.hid hset'
        have HB2' := Lib.hid hB2'
        have HMC2 := Lib.hid ((sameMap_upd hW2.disk hset' (fun e => hnC.1 (by rw [← show d = B + 1 from e]; exact hW2.disk.self))).trans hmc2)
        have HRE := Lib.hid re'
        have HRB := Lib.hid hb3'
        have HL1 := Lib.hid l1
        have HLB := Lib.hid lb
        subst hW'
        clear hBne m0 m1 m2 m3 m4 m5 macc mrd mvl hb0 hset' hB2' l0 l1 l3 l4 lb re re' hb3 hb3' hacc' hW2 hW2' hc2 hS2 hu2 hB2 hmc2 hNN hBne' hrc hsd hb1 hnC hg5B hWB
        gi_wp2_with (first
          | (gi_at_call 30; refine (CallsIn.inRound l (callsIn_wide.2 (bytesEqual _ _ _ _ _ _ _ _ _ _ _ HRB.out HRE.out))).mono ?_; rintro e w' ⟨rfl, rfl⟩)
          | (refine ⟨trivial, ?_⟩; gi_at_call 30; refine (CallsIn.inRound l (callsIn_wide.2 (bytesEqual _ _ _ _ _ _ _ _ _ _ _ HRB.out HRE.out))).mono ?_; rintro e w' ⟨rfl, rfl⟩))
        refine wpIn_region_canon (fun w' => Upd NoS (W.setCell ⟨B + 1, 0, none⟩ (.int .i64 ((pre.length : Int) + 1))) w') 3 1 [2] [0, 1, 2] rfl (by kernel_rfl) (by kernel_rfl) (by decide) (by kernel_rfl) (by kernel_rfl) (by kernel_rfl) (by kernel_rfl) (by kernel_rfl) ((Upd.refl _ _).drew) ?_
        simp only [List.take_succ_cons, List.take_zero, List.drop_succ_cons, List.drop_zero, pick, List.getElem?_cons_succ, List.getElem?_cons_zero, Nat.reduceBEq, List.contains_cons, List.contains_nil, Bool.or_self, Bool.or_false, Bool.or_true, Bool.true_or, Bool.false_or]
        iterate 2 (refine wpD_quiet ?_ (fun w' hS => ?_) ?_; rotate_left; (· obtain ⟨f0, f1, f2, f3, f4⟩ := hMK2.out w' hS; go_simp; (try with_reducible rfl)); (try simp only [Act.put, List.setIfInBounds_toArray, List.set_cons_succ, List.set_cons_zero]))
        refine wpD_loud (fun K hK => ?_)
        go_wp2_with fail
        refine (actTaking _ k n f ka km kc).mono ?_
        rintro e4 w4 ⟨rfl, hu4⟩
        have HU4' := Lib.hid ((Upd.refl NoS (W.setCell ⟨B + 1, 0, none⟩ (.int .i64 ((pre.length : Int) + 1)))).drew.tr hu4)
        obtain ⟨kk, hkk⟩ : ∃ kk, kk = k % 4 := ⟨_, rfl⟩
        obtain ⟨nn, hnn⟩ : ∃ nn, nn = takN n := ⟨_, rfl⟩
        rw [← hkk, ← hnn]
        clear hu4 hkk hnn
        go_wp2_with fail
        refine hK _ _ HU4'.out ?_
        clear hK
        try simp only [Act.put, List.setIfInBounds_toArray, List.set_cons_succ, List.set_cons_zero]
        refine wpD_nil ?_
        go_wp2_with (go_at_call 17; refine halted ?_)
        unfold Halted
        have hlo : D2.loose.length ≤ 800000000 := by rw [HC2.out.loose]; simp
        refine (walTake w4 p d D2 S2 L2 (HW2.out.updNo HU4'.out) kk nn f ka km kc hlo).mono ?_
        rintro e5 w5' ⟨rfl, ⟨S3, hW3, hS3, hu3'⟩, hsm3⟩
        obtain ⟨hcal3, htu3, _⟩ := take_calmly HC2.out (k := kk) (n := nn) (f := f) (by omega)
        have hne3 : ∀ j, j < W8.heap.size → ¬ (S5 j ∨ j = p) → ¬ (S2 j ∨ j = p) := fun j hj h e => by
          rcases e with e | e
          · rcases HS2.out j e with h1 | h1
            · rcases HS1.out j h1 with h2 | h2
              · exact h (.inl h2)
              · omega
            · have := HUB.out.size; omega
          · exact h (.inr e)
        have hBn : ∀ j, j = B ∨ j = B + 1 → ¬ (S2 j ∨ j = p) := fun j hj e => by
          have h := HNB.out j (by omega)
          rcases e with e | e
          · rcases HS2.out j e with h1 | h1
            · exact h.1 h1
            · have := HZB.out; omega
          · exact h.2 e
        have k1 := hu3'.heap (HU4'.out.heap HL1.out id) (hne3 _ (by omega) (by
          have h := HKB.out
          intro e
          rcases e with e | e
          · rcases HS5.out _ e with h | h
            · have := HS3.out _ h; omega
            · omega
          · omega))
        have kB := hu3'.heap (HU4'.out.heap HLB.out id) (hBn B (.inl rfl))
        have kC := hu3'.heap (HU4'.out.heap HB2'.out id) (hBn (B + 1) (.inr rfl))
        have HT : Hid (Upd (fun j => (S2 j ∨ j = p) ∨ j = B + 1) W w5') := Lib.hid (((HUWW.out.mono (fun _ _ e => .inr e)).trNo HU4'.out).tr (hu3'.mono (fun _ _ e => .inl e)))
        have hkeep : KeepsFrom Wb.heap.size W w5' := keepsOf HT.out (fun j o hj ho hB' => by
          rcases hj with hj | hj
          · exact wal_cells HW20.out HMC20.out hj ho (by have := HUB.out.size; omega)
          · rw [hj, HB20.out] at ho; cases ho; rfl)
        have hWs := HU20.out.size
        have hstay : Stay (AllK (b9 + 1) vs vals) W w5' := stayOf HT.out (fun j hj => by
          obtain ⟨h1, h2⟩ := HKB.out j hj
          refine ⟨by have := HUB.out.size; omega, fun e => ?_⟩
          rcases e with e | e
          · exact hne3 j h1 h2 e
          · have := HB.out; omega)
        have hI' : PicI Wb p d m S1 B r (pre ++ [((pre.length : Int) + 1, xa, b.length, xc)]) w5' := by
          refine ⟨_, _, S3, hW3, hcal3, by rw [List.length_append, List.length_singleton]; omega, by rw [List.length_append, List.length_singleton]; have h1 := hokl.s1; have h2 := hokl.f1; have h3 := hokl.n1; omega, fun j hj => ?_, ?_, ?_, hsm3.trans ((sameMap_upd HW2.out.disk HU4'.out id).trans HMC2.out)⟩
          · rcases hS3 j hj with h | h
            · exact HS2.out j h
            · have h1 := HU4'.out.size; have h2 := HU2'.out.size; exact .inr (by omega)
          · exact (HU2'.out.trNo HU4'.out).trans hu3' (fun j hj e => by
              rcases e with e | e
              · rcases HS2.out j e with h | h
                · exact .inl h
                · omega
              · exact .inr (.inl e))
          · rw [kC, List.length_append, List.length_singleton]; rfl
        have HKP := Lib.hid hkeep
        have HST := Lib.hid hstay
        have HI' := Lib.hid hI'
        have qB5 := cell_at kB 0
        have qC5 := cell_at kC 0
        have q15 := cell_at k1 0
        simp only [List.getElem?_toArray, List.getElem?_cons_zero, List.getElem?_cons_succ] at qB5 qC5 q15
        clear hkeep hstay hI' k1 kB kC hW3 hS3 hu3' hsm3 hcal3 htu3 hne3 hBn q1 q8 q9 qB qC fC c0 c1 c2 c3
        go_wp2
        refine only_normal ?_
        by_cases hr1 : r = 1
        · have hr1b : ((r : Int) == 1) = true := by rw [hr1]; rfl
          by_cases hfr : (pre.length : Int) + 1 = FR
          · have hfrb : ((pre.length : Int) + 1 == FR) = true := by simpa using hfr
            clear hfr
            have HR1 := Lib.hid hr1
            clear hr1
            gi_wp2
            exact ⟨HKP.out, HI'.out, rfl, HR1.out⟩
          · have hfrb : ((pre.length : Int) + 1 == FR) = false := by simpa using hfr
            clear hfr hr1
            gi_wp2
            exact ⟨HKP.out, HST.out, HI'.out⟩
        · have hr1b : ((r : Int) == 1) = false := by simp; omega
          clear hr1
          gi_wp2
          exact ⟨HKP.out, HST.out, HI'.out⟩
      case stop =>
        rintro D c pre W hD ⟨hI, rfl, hr1⟩ hDk
        have HPS := Lib.hid (hend.out D pre W hD hI hDk)
        have hu2 := hI.choose_spec.choose_spec.choose_spec.2.2.2.2.2.1
        have hb0 := hu2.heap HB0'.out hBne
        have qB := cell_at hb0 0
        simp only [List.getElem?_toArray, List.getElem?_cons_zero] at qB
        clear hI hDk hu2 hb0 hBne
        subst hr1
        have qB : W.cell? ⟨B, 0, none⟩ = some (.int .i64 1) := qB
        go_wp2
        refine ⟨⟨_, D :: Ds, by omega, by rw [List.length_cons, HDL.out], HPS.out, by rfl⟩, by simp [intOf]⟩
      case done =>
        rintro D ys W hD hDn hI hDk
        have HPS := Lib.hid (hend.out D ys W hD hI hDk)
        have hDn' : ys.length = (L5.said.drop 1).length := hDn
        rw [List.length_drop] at hDn'
        have hu2 := hI.choose_spec.choose_spec.choose_spec.2.2.2.2.2.1
        have hC := hI.choose_spec.choose_spec.choose_spec.2.2.2.2.2.2.1
        obtain ⟨m0, m1, m2, m3, m4, m5, macc, mrd, mvl⟩ := MK.out W (huW.out W hu2)
        have hb0 := hu2.heap HB0'.out hBne
        have qB := cell_at hb0 0
        have qC := cell_at hC 0
        have q9 := cell_at m4 0
        simp only [List.getElem?_toArray, List.getElem?_cons_zero] at qB qC q9
        have hlen : ((ys.length : Int) == (L5.said.length : Int) - 1) = true := by simp; omega
        have hl1 : (1 : Int) ≤ L5.said.length := by omega
        have hl2 : (L5.said.length : Int) ≤ 1000 := by have h1 := hokl.s1; have h2 := hokl.f1; have h3 := hokl.n1; omega
        clear hI hDk hu2 hb0 hC hBne m0 m1 m2 m3 m4 m5 macc mrd mvl hDn hDn'
        have hr012 : r = 0 ∨ r = 1 ∨ r = 2 := by omega
        rcases hr012 with hr1 | hr1 | hr1
        all_goals
          subst hr1
          first
            | (have qB : W.cell? ⟨B, 0, none⟩ = some (.int .i64 0) := qB)
            | (have qB : W.cell? ⟨B, 0, none⟩ = some (.int .i64 1) := qB)
            | (have qB : W.cell? ⟨B, 0, none⟩ = some (.int .i64 2) := qB)
          go_wp2
          refine ⟨⟨_, D :: Ds, by omega, by rw [List.length_cons, HDL.out], HPS.out, by rfl⟩, by simp [intOf]⟩
    · obtain ⟨D1, L1, S1, hW1, hc1, ht1, hS1, hu1, hD1, hnd⟩ := hI
      obtain ⟨m0, m1, m2, m3, m4, m5, macc, mrd, mvl⟩ := MK.out wr hu1
      have hr3 : r = 3 := by omega
      subst hr3
      obtain ⟨Da, Db, Dc, rfl⟩ : ∃ a b c, Ds = [a, b, c] := by
        rcases Ds with _ | ⟨a, _ | ⟨b, _ | ⟨c, _ | ⟨e, l⟩⟩⟩⟩ <;> simp at hDl
        exact ⟨a, b, c, rfl⟩
      have q2 := cell_at m2 0
      have f2 := free_at m2 0
      simp only [List.getElem?_toArray, List.getElem?_cons_zero] at q2
      have HU1 := Lib.hid hu1
      have HD1 := Lib.hid hD1
      have HND := Lib.hid hnd
      have HM2 := Lib.hid m2
      unfold dfrs
      simp only [List.map_cons, List.map_nil]
      clear hW1 hc1 ht1 hS1 hu1 hD1 hnd m0 m1 m2 m3 m4 m5 macc mrd mvl
      go_wp2
      have hset : Upd (OneS (N + 1 + 1)) wr (wr.setCell ⟨N + 1 + 1, 0, none⟩ (.bool true)) := (Upd.refl _ wr).setCell _ _ (fun _ => rfl)
      obtain ⟨Wa, hWa⟩ : ∃ Wa, Wa = wr.setCell ⟨N + 1 + 1, 0, none⟩ (.bool true) := ⟨_, rfl⟩
      have hra : Wa.heap[N + 1 + 1]? = some (.cells #[.bool true] 4 (0, 0)) := by rw [hWa]; exact heap_set HM2.out 0 _
      rw [← hWa] at hset ⊢
      clear hWa
      have hDs : ∀ D, D ∈ [Da, Db, Dc] → W8.heap.size ≤ D ∧ Wa.heap[D]? = some (.deferred (some [])) := fun D hD => by
        obtain ⟨g1, _, _, g4⟩ := HD1.out D hD
        refine ⟨g1, hset.heap g4 (fun e => ?_)⟩
        rw [show D = N + 1 + 1 from e] at g4
        rw [HM2.out] at g4
        cases g4
      have hnd := HND.out
      simp only [List.nodup_cons, List.mem_cons, List.not_mem_nil, or_false, not_or, not_false_eq_true, List.nodup_nil, and_true] at hnd
      obtain ⟨⟨nab, nac⟩, nbc⟩ := hnd
      have da := hDs Da (by simp)
      have db := hDs Db (by simp)
      have dc := hDs Dc (by simp)
      have ua : Upd (OneS Da) Wa (Wa.putObj Da (.deferred none)) := (Upd.refl _ Wa).grown (grownBy_putObj' Wa Da (.deferred none)) (fun k hk _ => (Option.some.inj hk).symm)
      have db2 := ua.heap db.2 (fun e => nab (Eq.symm e))
      have dc2 := ua.heap dc.2 (fun e => nac (Eq.symm e))
      have ra2 := ua.heap hra (fun e => by have h := da.2; rw [← show N + 1 + 1 = Da from e, hra] at h; cases h)
      refine ⟨by simp, .inl ⟨_, _, rfl, run_takeDeferred da.2, ?_⟩⟩
      have ub : Upd (OneS Db) (Wa.putObj Da (.deferred none)) ((Wa.putObj Da (.deferred none)).putObj Db (.deferred none)) := (Upd.refl _ _).grown (grownBy_putObj' _ Db (.deferred none)) (fun k hk _ => (Option.some.inj hk).symm)
      have dc3 := ub.heap dc2 (fun e => nbc (Eq.symm e))
      have ra3 := ub.heap ra2 (fun e => by have h := db.2; rw [← show N + 1 + 1 = Db from e, hra] at h; cases h)
      refine ⟨by simp, .inl ⟨_, _, rfl, run_takeDeferred db2, ?_⟩⟩
      have uc : Upd (OneS Dc) ((Wa.putObj Da (.deferred none)).putObj Db (.deferred none)) (((Wa.putObj Da (.deferred none)).putObj Db (.deferred none)).putObj Dc (.deferred none)) := (Upd.refl _ _).grown (grownBy_putObj' _ Dc (.deferred none)) (fun k hk _ => (Option.some.inj hk).symm)
      have ra4 := uc.heap ra3 (fun e => by have h := dc.2; rw [← show N + 1 + 1 = Dc from e, hra] at h; cases h)
      have q4 := cell_at ra4 0
      simp only [List.getElem?_toArray, List.getElem?_cons_zero] at q4
      refine ⟨by simp, .inl ⟨_, _, rfl, run_takeDeferred dc3, ?_⟩⟩
      refine ⟨.bool true, by simp [results, Try.results6, go_sem, q4], rfl, ?_⟩
      have hz8 := HU57.out.size
      have hz9 := HSET.out.size
      have hN1 := HN.out
      have hz5 := HU5.out.size
      have hz4 := HU4.out.size
      have hz3 := HU3.out.size
      have hz2 := HU2.out.size
      have e1 : Upd NoS w w5 := ((HU2.out.tr HU3.out).tr HU4.out).trans HU5.out (fun j hj e => by
        rcases e with e | e
        · have := HS3.out j e; omega
        · omega)
      have e2 : Upd NoS w W8 := (e1.tr HU57.out).trans HSET.out (fun j hj e => by rw [show j = N + 1 from e] at hj; omega)
      have e3 : Upd NoS w wr := e2.trans HU1.out (fun j hj e => by
        rcases e with e | e
        · rcases HS5.out j e with h | h
          · have := HS3.out j h; omega
          · omega
        · omega)
      have e4 := e3.trans hset (fun j hj e => by rw [show j = N + 1 + 1 from e] at hj; omega)
      exact ((e4.trans ua (fun j hj e => by rw [show j = Da from e] at hj; have := da.1; omega)).trans ub (fun j hj e => by rw [show j = Db from e] at hj; have := db.1; omega)).trans uc (fun j hj e => by rw [show j = Dc from e] at hj; have := dc.1; omega)
end Go.Proofs.Ytomgdfoahfhijaa
