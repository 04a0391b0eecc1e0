/- take, as it leaves a log; lived. -/
import Derived.Test.YtomgdfoahfhijaaAll
import Derived.Test.YtomgdfoahfhijaaRoo
set_option linter.unusedVariables false
set_option linter.unusedSimpArgs false
namespace Go.Proofs.Ytomgdfoahfhijaa
open Go.RowKit

theorem WalTo.of {w w1 w2 : World} {p d : Nat} {D : Dk} {L : Wl} {S : Nat → Prop} (hu : Upd NoS w w1) (h : WalTo w1 w2 p d D L S) : WalTo w w2 p d D L S := by
  obtain ⟨S', h1, h2, h3⟩ := h
  exact ⟨S', h1, fun k hk => (h2 k hk).imp id (fun h => Nat.le_trans hu.size h), (hu.mono (fun _ _ h => h.elim)).tr h3⟩
theorem WalOn.of {w w1 w2 : World} {p d : Nat} {D D0 : Dk} {L : Wl} {S : Nat → Prop} (hd : IsDisk w d D0 S) (hu : Upd NoS w w1) (h : WalOn w1 w2 p d D L S) : WalOn w w2 p d D L S :=
  ⟨WalTo.of hu h.1, h.2.trans (sameMap_upd hd hu id)⟩
set_option maxRecDepth 100000 in
set_option maxHeartbeats 1000000 in
theorem walTake (w : World) (p d : Nat) (D : Dk) (S : Nat → Prop) (L : Wl) (h : IsWal w p d D S L) (k n : Int) (f : UInt8) (a : Option Addr) (m c : Nat) (hlo : D.loose.length ≤ 800000000) :
    Calls Try.prog 17 #[.pointer (some ⟨p, 0, none⟩), actV k n f (.slice a m c)] w fun e w' => e = .returned (.int .i64 (L.take D k n f).1) ∧ WalOn w w' p d (L.take D k n f).2.1 (L.take D k n f).2.2 S := by
  have HO := Lib.hid h
  unfold actV Wl.take
  clear h
  go_enter Try.func17, Try.ntmps17
  go_wp2_with (go_at_call 16; refine halted ?_)
  unfold Halted
  refine (actKind _ k n f a m c).mono ?_
  rintro e1 w1 ⟨rfl, hu1⟩
  have h1 := hu1.heap (heap_new w (.cells #[.int .i64 k, .int .i64 n, .int .u8 (f.toNat : Int), .slice a m c] 33)) id
  have c0 := cell_at h1 0
  have c1 := cell_at h1 1
  have c2 := cell_at h1 2
  have c3 := cell_at h1 3
  simp only [List.getElem?_toArray, List.getElem?_cons_zero, List.getElem?_cons_succ] at c0 c1 c2 c3
  have HU1 := Lib.hid (((Upd.refl NoS w).alloc (.cells #[.int .i64 k, .int .i64 n, .int .u8 (f.toNat : Int), .slice a m c] 33)).tr hu1)
  clear hu1 h1
  by_cases h3 : k % 8 = 3
  · simp only [if_pos h3]
    go_wp2_with (go_at_call 15; refine halted ?_)
    unfold Halted
    refine (actBytesIs _ k n f a m c).mono ?_
    rintro e2 w2 ⟨a2, m2, rfl, hown, hu2⟩
    have HU2 := Lib.hid (HU1.out.tr hu2)
    have HR2 := Lib.hid (Rd.of_own hown)
    clear hown hu2 c0 c1 c2 c3
    go_wp2_with (go_at_call 25; refine halted ?_)
    unfold Halted
    refine (walCheck w2 p d D S L (HO.out.updNo HU2.out) _ _ _ _ HR2.out hlo).mono ?_
    rintro e3 w3 ⟨rfl, ho3⟩
    have HO3 := Lib.hid (WalOn.of HO.out.disk HU2.out ho3)
    clear ho3
    go_wp2
    go_ret
    exact ⟨rfl, HO3.out⟩
  · simp only [if_neg h3]
    go_wp2_with (go_at_call 15; refine halted ?_)
    unfold Halted
    refine (actBytesIs _ k n f a m c).mono ?_
    rintro e2 w2 ⟨a2, m2, rfl, hown, hu2⟩
    have HU2 := Lib.hid (HU1.out.tr hu2)
    have HR2 := Lib.hid (Rd.of_own hown)
    clear hown hu2 c0 c1 c2 c3
    go_wp2_with (go_at_call 24; refine halted ?_)
    unfold Halted
    refine (walAppend w2 p d D S L (HO.out.updNo HU2.out) _ _ _ _ HR2.out hlo).mono ?_
    rintro e3 w3 ⟨rfl, ho3⟩
    have HO3 := Lib.hid (WalOn.of HO.out.disk HU2.out ho3)
    clear ho3
    go_wp2
    go_ret
    exact ⟨rfl, HO3.out⟩
theorem take_said {D : Dk} {L : Wl} (h : Calmly D L) {k n : Int} {f : UInt8} (ht : L.turn ≤ 1000000) :
    ((L.take D k n f).1 = 0 ∧ (L.take D k n f).2.2.said = behindOf L.said k n f) ∨ ((L.take D k n f).1 ≠ 0 ∧ (L.take D k n f).2.2.said = L.said) := by
  rcases take_calm h (k := k) (n := n) (f := f) ht with ⟨_, e⟩ | ⟨_, _, e⟩ | ⟨_, _, D', e, _⟩
  · rw [e]; exact .inr ⟨by show (_ : Int) ≠ 0; simp, rfl⟩
  · rw [e]; exact .inr ⟨by show (_ : Int) ≠ 0; simp, rfl⟩
  · rw [e]
    refine .inl ⟨rfl, ?_⟩
    unfold behindOf
    by_cases hk : k % 8 = 3
    · simp only [if_pos hk]; rfl
    · simp only [if_neg hk]; rfl
def LivI (w : World) (p d : Nat) (S0 : Nat → Prop) (R : Nat → Dk → Wl → Prop) (j : Nat) (v : Value) (W : World) : Prop :=
  ∃ D L S, R j D L ∧ IsWal W p d D S L ∧ (∀ k, S k → S0 k ∨ w.heap.size ≤ k) ∧ Upd (fun k => S0 k ∨ k = p) w W ∧ Acc W v L.said (fun k => w.heap.size ≤ k ∧ ¬ S k)
theorem LivI.no {w W W' : World} {p d : Nat} {S0 : Nat → Prop} {R : Nat → Dk → Wl → Prop} {j : Nat} {v : Value} (h : LivI w p d S0 R j v W) (hu : Upd NoS W W') : LivI w p d S0 R j v W' := by
  obtain ⟨D, L, S, h1, h2, h3, h4, h5⟩ := h
  exact ⟨D, L, S, h1, h2.updNo hu, h3, h4.trNo hu, h5.updNo hu⟩
theorem IsWal.ltp {w : World} {p d : Nat} {D : Dk} {S : Nat → Prop} {L : Wl} (h : IsWal w p d D S L) : p < w.heap.size := by
  obtain ⟨a, n, c, hc, _⟩ := h.cells
  exact lt_of_heap hc
set_option maxRecDepth 100000 in
set_option maxHeartbeats 4000000 in
theorem livedIs (w : World) (p d : Nat) (D : Dk) (S : Nat → Prop) (L : Wl) (h : IsWal w p d D S L) (v : Value) (xs : List Ac) (hX : ∀ W, Upd (fun k => S k ∨ k = p) w W → IsActs W v xs)
    (R : Nat → Dk → Wl → Prop) (h0 : R 0 D L) (hR1 : ∀ j D L, R j D L → Calmly D L ∧ L.turn ≤ (j : Int)) (hR2 : ∀ (j : Nat) D L (k n : Int) (f : UInt8), R j D L → j < 14 → 0 ≤ k → k < 4 → R (j + 1) (L.take D k n f).2.1 (L.take D k n f).2.2) :
    Calls Try.prog 29 #[.pointer (some ⟨p, 0, none⟩), v] w fun e w' => ∃ v', e = .returned (.tuple #[v', .bool true]) ∧ ∃ j, LivI w p d S R j v' w' := by
  have H := Lib.hid h
  have HX := Lib.hid hX
  have HR1 := Lib.hid hR1
  have HR2 := Lib.hid hR2
  have HR0 := Lib.hid h0
  have hpw := h.ltp
  obtain ⟨av, cv, rfl, hlc, hcm⟩ := (hX w (Upd.refl _ w)).shape
  unfold maxLen at hcm
  clear h hX hR1 hR2 h0
  go_enter Try.func29, Try.ntmps29
  go_wp2_with (go_at_call 34; refine halted ?_)
  unfold Halted
  refine (accountIs w p d D S L H.out).mono ?_
  rintro e1 w1 ⟨v1, rfl, hacc1, hu1⟩
  have HI1 : Hid (LivI w p d S R 0 v1 w1) := Lib.hid ⟨D, L, S, HR0.out, H.out.updNo hu1, fun k hk => .inl hk, hu1.mono (fun _ _ h => h.elim), hacc1.mono (fun k _ hk => ⟨hk, fun e => by have := H.out.disk.lt k e; omega⟩)⟩
  obtain ⟨a1, c1, rfl, _⟩ := hacc1.shape
  clear hacc1 hu1
  go_wp2
  go_loopw [13, 6] (fun iv nv wr => ∃ (k : Nat) (an : Option Addr) (nn cn : Nat), iv = .int .i64 (k : Int) ∧ nv = .slice an nn cn ∧ k ≤ 14 ∧ k ≤ xs.length ∧ LivI w p d S R k (.slice an nn cn) wr) (fun iv _ _ => xs.length - (intOf iv).toNat)
  case atStart => exact ⟨0, _, _, _, rfl, rfl, by omega, by omega, HI1.out⟩
  case round =>
    obtain ⟨k, an, nn, cn, rfl, rfl, hk14, hkl, hI⟩ := hrel
    have HI := Lib.hid hI
    by_cases hlt : k < xs.length
    · obtain ⟨x, hx⟩ : ∃ x, xs[k]? = some x := ⟨_, List.getElem?_eq_getElem hlt⟩
      obtain ⟨D1, L1, S1, hR, hW, hS1, hup, hacc⟩ := hI
      obtain ⟨_, g, o, rfl, q0, q1, q2, q3⟩ := (HX.out wr hup).at hx
      unfold Ac.kv at q3
      have HR := Lib.hid hR
      have HW := Lib.hid hW
      have HS1 := Lib.hid hS1
      have HUP := Lib.hid hup
      have HACC := Lib.hid hacc
      clear hx hR hW hS1 hup hacc
      by_cases hk20' : k = 14
      · have hb : ((k : Int) == 14) = true := by rw [hk20']; rfl
        clear hk20'
        go_wp2
        go_ret2
        exact ⟨_, rfl, k, HI.out.no ((Upd.refl NoS wr).alloc _)⟩
      · have hk19 : (k : Int) < 14 := by omega
        have hk19n : (k : Int) ≠ 14 := by omega
        clear hk20'
        go_wp2_with (first
          | (go_at_call 14; refine halted ?_))
        unfold Halted
        refine (actTaking _ x.kind x.n x.fill x.ka x.keep.length x.kc).mono ?_
        rintro e3 w3 ⟨rfl, hu3⟩
        obtain ⟨kk, hkk⟩ : ∃ kk, kk = x.kind % 4 := ⟨_, rfl⟩
        obtain ⟨nn', hnn⟩ : ∃ nn, nn = takN x.n := ⟨_, rfl⟩
        have hk0 : 0 ≤ kk := by omega
        have hk4 : kk < 4 := by omega
        rw [← hkk, ← hnn]
        obtain ⟨hcal, htu⟩ := HR1.out k D1 L1 HR.out
        have hR2 := HR2.out k D1 L1 kk nn' x.fill HR.out (by omega) hk0 hk4
        have hsd := take_said hcal (k := kk) (n := nn') (f := x.fill) (by omega)
        have hokl := hcal.ok
        have hlen0 : 0 < L1.said.length := hokl.s0
        have hlen1 : L1.said.length ≤ 100000 := by have h1 := hokl.s1; have h2 := hokl.f1; have h3 := hokl.n1; omega
        have hlo : D1.loose.length ≤ 800000000 := by rw [hcal.loose]; simp
        have hA3 := hu3.heap (heap_new wr (.cells #[.int .i64 x.kind, .int .i64 x.n, .int .u8 (x.fill.toNat : Int), .slice x.ka x.keep.length x.kc] 33)) id
        have HU3 := Lib.hid (((Upd.refl NoS wr).alloc (.cells #[.int .i64 x.kind, .int .i64 x.n, .int .u8 (x.fill.toNat : Int), .slice x.ka x.keep.length x.kc] 33)).tr hu3)
        obtain ⟨B, hB⟩ : ∃ B, B = wr.heap.size := ⟨_, rfl⟩
        rw [← hB] at hA3 ⊢
        have c0 := cell_at hA3 0
        have c1 := cell_at hA3 1
        have c2 := cell_at hA3 2
        have c3 := cell_at hA3 3
        have f0 := free_at hA3 0
        have f1 := free_at hA3 1
        have f2 := free_at hA3 2
        have f3 := free_at hA3 3
        simp only [List.getElem?_toArray, List.getElem?_cons_zero, List.getElem?_cons_succ] at c0 c1 c2 c3
        have HB := Lib.hid hB
        have HSD := Lib.hid hsd
        have HA3 := Lib.hid hA3
        have HRN := Lib.hid hR2
        clear hB hkk hnn hA3 hu3 q0 q1 q2 q3 hsd hR2 hcal hokl
        unfold actV
        go_wp2_with (first
          | (go_at_call 17; refine halted ?_))
        unfold Halted
        refine calls_name ?_
        intro W4 hW4
        have hA4 : W4.heap[B]? = some (.cells #[.int .i64 kk, .int .i64 nn', .int .u8 (x.fill.toNat : Int), .slice x.ka x.keep.length x.kc] 33 (0, 0)) := by
          rw [hW4]
          exact heap_set (heap_set (heap_set (heap_set HA3.out 0 _) 1 _) 2 _) 3 _
        have hu4 : Upd NoS wr W4 := by
          rw [hW4]
          have hb := HB.out
          exact (((HU3.out.setCell _ _ (fun h => absurd h (by show ¬ B < _; omega))).setCell _ _ (fun h => absurd h (by show ¬ B < _; omega))).setCell _ _ (fun h => absurd h (by show ¬ B < _; omega))).setCell _ _ (fun h => absurd h (by show ¬ B < _; omega))
        clear hW4 c0 c1 c2 c3 f0 f1 f2 f3
        refine (walTake W4 p d D1 S1 L1 (HW.out.updNo hu4) kk nn' x.fill x.ka x.keep.length x.kc hlo).mono ?_
        rintro e5 w5 ⟨rfl, ⟨S2, hW2, hS2, hup2⟩, _⟩
        have hSlt : ∀ j, S1 j → j < wr.heap.size := HW.out.disk.lt
        have hA5 := hup2.heap hA4 (fun e => by
          have hb := HB.out
          rcases e with e | e
          · have := hSlt B e; omega
          · have := HW.out.ltp; omega)
        have q0 := cell_at hA5 0
        have q1 := cell_at hA5 1
        have q2 := cell_at hA5 2
        have q3 := cell_at hA5 3
        simp only [List.getElem?_toArray, List.getElem?_cons_zero, List.getElem?_cons_succ] at q0 q1 q2 q3
        have hacc5 : Acc w5 (.slice an nn cn) L1.said (fun j => w.heap.size ≤ j ∧ ¬ S2 j) := by
          have h1 : Acc wr (.slice an nn cn) L1.said (fun j => w.heap.size ≤ j ∧ ¬ S1 j ∧ j < wr.heap.size) := HACC.out.mono (fun j hj h => ⟨h.1, h.2, hj⟩)
          have h2 := (h1.updNo hu4).upd hup2 (fun j _ h e => by
            rcases e with e | e
            · exact h.2.1 e
            · have := h.1; omega)
          refine h2.mono (fun j _ h => ⟨h.1, fun e => ?_⟩)
          rcases hS2 j e with e | e
          · exact h.2.1 e
          · have := hu4.size; have := h.2.2; omega
        have hup5 : Upd (fun j => S j ∨ j = p) w w5 := (HUP.out.trNo hu4).trans hup2 (fun j hj e => by
          rcases e with e | e
          · exact (HS1.out j e).imp id (fun h => by omega)
          · exact .inr e)
        have hS5 : ∀ j, S2 j → S j ∨ w.heap.size ≤ j := fun j hj => (hS2 j hj).elim (HS1.out j) (fun h => .inr (Nat.le_trans (Nat.le_trans HUP.out.size hu4.size) h))
        have HACC5 := Lib.hid hacc5
        have HUP5 := Lib.hid hup5
        have HS5 := Lib.hid hS5
        have HW2 := Lib.hid hW2
        clear hA4 hu4 hA5 hacc5 hup5 hS5 hW2 hS2 hup2 hSlt
        rcases HSD.out with ⟨hc, hsd⟩ | ⟨hc, hsd⟩
        · rw [hc]
          have HS := Lib.hid hsd
          clear hc hsd HSD
          go_wp2_with (first
            | (go_at_call 32; refine halted ?_))
          unfold Halted
          refine (behindIs w5 _ _ _ HACC5.out hlen0 hlen1 kk nn' x.fill x.ka x.keep.length x.kc).mono ?_
          rintro e6 w6 ⟨v6, rfl, hacc6, hu6⟩
          have HACC6 := Lib.hid (hacc6.mono (T' := fun j => w.heap.size ≤ j ∧ ¬ S2 j) (fun j hj h => by
            rcases h with h | h
            · exact h
            · exact ⟨Nat.le_trans HUP5.out.size h, fun e => by have := HW2.out.disk.lt j e; omega⟩))
          have HU6 := Lib.hid hu6
          obtain ⟨a6, c6, rfl, _⟩ := hacc6.shape
          clear hacc6 hu6 q0 q1 q2 q3
          go_wp2_with (first
            | (go_at_call 34; refine halted ?_))
          unfold Halted
          refine (accountIs w6 p d _ S2 _ (HW2.out.updNo HU6.out)).mono ?_
          rintro e7 w7 ⟨v7, rfl, hacc7, hu7⟩
          have HACC7 := Lib.hid hacc7
          have HU7 := Lib.hid hu7
          have hE : eqLL (L1.take D1 kk nn' x.fill).2.2.said (behindOf L1.said kk nn' x.fill) = true := (eqLL_iff _ _).2 HS.out
          clear hacc7 hu7
          go_wp2_with (first
            | (go_at_call 33; refine (lawEqual _ _ _ _ _ _ _ HACC7.out (HACC6.out.updNo HU7.out)).mono ?_; rintro e w' ⟨rfl, rfl⟩))
          refine ⟨⟨k + 1, _, _, _, by go_num, rfl, by omega, by omega, _, _, S2, HRN.out, (HW2.out.updNo HU6.out).updNo HU7.out, HS5.out, (HUP5.out.trNo HU6.out).trNo HU7.out, ?_⟩, by simp [intOf]; omega⟩
          rw [HS.out]
          exact HACC6.out.updNo HU7.out
        · have hcb : ((L1.take D1 kk nn' x.fill).1 == 0) = false := by simpa using hc
          have HS := Lib.hid hsd
          clear hc hsd HSD q0 q1 q2 q3
          go_wp2_with (first
            | (go_at_call 34; refine halted ?_))
          unfold Halted
          refine (accountIs w5 p d _ S2 _ HW2.out).mono ?_
          rintro e7 w7 ⟨v7, rfl, hacc7, hu7⟩
          have HACC7 := Lib.hid hacc7
          have HU7 := Lib.hid hu7
          have hE : eqLL (L1.take D1 kk nn' x.fill).2.2.said L1.said = true := (eqLL_iff _ _).2 HS.out
          clear hacc7 hu7
          go_wp2_with (first
            | (go_at_call 33; refine (lawEqual _ _ _ _ _ _ _ HACC7.out (HACC5.out.updNo HU7.out)).mono ?_; rintro e w' ⟨rfl, rfl⟩))
          refine ⟨⟨k + 1, _, _, _, by go_num, rfl, by omega, by omega, _, _, S2, HRN.out, HW2.out.updNo HU7.out, HS5.out, HUP5.out.trNo HU7.out, ?_⟩, by simp [intOf]; omega⟩
          rw [HS.out]
          exact HACC5.out.updNo HU7.out
    · clear hI
      go_wp2
      go_ret2
      exact ⟨_, rfl, k, HI.out⟩
theorem IsWal.one {w w' : World} {p d g : Nat} {D : Dk} {S : Nat → Prop} {L : Wl} {cs : Array Value} {t : TypeId} {fr : Nat × Nat} (h : IsWal w p d D S L) (hg : w.heap[g]? = some (.cells cs t fr)) (h1 : t ≠ 35) (h2 : t ≠ 5) (hS : ¬ S g) (hp : g ≠ p) (hu : Upd (OneS g) w w') : IsWal w' p d D S L := by
  obtain ⟨g1, g2, g3, vs, g4, vals, g5, g6, g7⟩ := h
  exact ⟨g1.upd hu (fun k hk e => hS (by rw [show k = g from e] at hk; exact hk)), g2, g3, vs, hu.heap g4 (fun e => hp (Eq.symm e)), vals, g5.upd hu (g5.ne hg h1), g6, fun i v l hv hl => ⟨(g7 i v l hv hl).1.upd hu ((g7 i v l hv hl).1.ne hg h2), (g7 i v l hv hl).2⟩⟩
theorem Acc.one {w w' : World} {g : Nat} {v : Value} {l : List (List UInt8)} {T : Nat → Prop} {cs : Array Value} {t : TypeId} {fr : Nat × Nat} (h : Acc w v l T) (hg : w.heap[g]? = some (.cells cs t fr)) (h1 : t ≠ 35) (h2 : t ≠ 5) (hu : Upd (OneS g) w w') : Acc w' v l T := by
  obtain ⟨vals, g1, g2, g3⟩ := h
  exact ⟨vals, g1.upd hu (g1.ne hg h1), g2, fun i u b hv hb => ⟨(g3 i u b hv hb).1.upd hu ((g3 i u b hv hb).1.ne hg h2), (g3 i u b hv hb).2⟩⟩
theorem take_calmly {D : Dk} {L : Wl} (h : Calmly D L) {k n : Int} {f : UInt8} (ht : L.turn ≤ 1000000) : Calmly (L.take D k n f).2.1 (L.take D k n f).2.2 ∧ (L.take D k n f).2.2.turn ≤ L.turn + 1 ∧ (L.take D k n f).2.2.n = L.n := by
  rcases take_calm h (k := k) (n := n) (f := f) ht with ⟨_, e⟩ | ⟨_, _, e⟩ | ⟨_, _, D', e, hc⟩
  · rw [e]; exact ⟨h, by show L.turn ≤ L.turn + 1; omega, rfl⟩
  · rw [e]; exact ⟨h, by show L.turn ≤ L.turn + 1; omega, rfl⟩
  · rw [e]
    refine ⟨hc, ?_, ?_⟩
    · show (if k % 8 = 3 then L.anew (actBytes n f) (sectorsOf (cntOf n)) else L.more (actBytes n f) (sectorsOf (cntOf n))).turn ≤ L.turn + 1
      split
      · exact Int.le_refl _
      · show L.turn ≤ L.turn + 1; omega
    · show (if k % 8 = 3 then L.anew (actBytes n f) (sectorsOf (cntOf n)) else L.more (actBytes n f) (sectorsOf (cntOf n))).n = L.n
      split <;> rfl
end Go.Proofs.Ytomgdfoahfhijaa
