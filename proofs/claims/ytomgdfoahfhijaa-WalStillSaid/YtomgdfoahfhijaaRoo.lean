/- What has room is taken down, what has none is refused (safehouselaw04.WalRoom): the walk. -/
import Derived.Test.YtomgdfoahfhijaaLab
import Derived.Test.YtomgdfoahfhijaaAct
set_option linter.unusedVariables false
set_option linter.unusedSimpArgs false
namespace Go.Proofs.Ytomgdfoahfhijaa
open Go.RowKit

def Wl.anew (L : Wl) (b : List UInt8) (M : Int) : Wl := ⟨L.n, L.turn + 1, [b], M, false⟩
def Wl.more (L : Wl) (b : List UInt8) (M : Int) : Wl := { L with said := L.said ++ [b], fin := L.fin + M }
/-- What is taken down of a calm log, and how much room is left. -/
theorem take_calm {D : Dk} {L : Wl} (h : Calmly D L) {k n : Int} {f : UInt8} (ht : L.turn ≤ 1000000) :
    (40000 < cntOf n ∧ L.take D k n f = (3, D, L)) ∨
    (cntOf n ≤ 40000 ∧ ((if k % 8 = 3 then L.n else L.n - L.fin) < sectorsOf (cntOf n) ∧ L.take D k n f = (6, D, L)) ∨
    (cntOf n ≤ 40000 ∧ sectorsOf (cntOf n) ≤ (if k % 8 = 3 then L.n else L.n - L.fin) ∧ ∃ D', L.take D k n f = (0, D', if k % 8 = 3 then L.anew (actBytes n f) (sectorsOf (cntOf n)) else L.more (actBytes n f) (sectorsOf (cntOf n))) ∧
      Calmly D' (if k % 8 = 3 then L.anew (actBytes n f) (sectorsOf (cntOf n)) else L.more (actBytes n f) (sectorsOf (cntOf n))))) := by
  have hlen := length_actBytes n f
  by_cases h4 : 40000 < cntOf n
  · left
    refine ⟨h4, ?_⟩
    have hr : L.refuses ((actBytes n f).length : Int) = 3 := by unfold Wl.refuses; rw [hlen, if_pos (by omega)]
    unfold Wl.take
    split
    · unfold Wl.check; rw [hr, if_pos (by decide)]
    · unfold Wl.append; rw [hr, if_pos (by decide)]
  · right
    have h4 : cntOf n ≤ 40000 := by omega
    have hr := refuses_ok h.whole (n := (actBytes n f).length) (by omega)
    have hsec := sectors_le (n := cntOf n) h4
    have hok := h.ok
    by_cases hroom : (if k % 8 = 3 then L.n else L.n - L.fin) < sectorsOf (cntOf n)
    · left
      refine ⟨h4, hroom, ?_⟩
      unfold Wl.take
      split
      · rename_i hk
        rw [if_pos hk] at hroom
        unfold Wl.check; rw [hr, hlen, if_neg (by decide), if_pos (.inl hroom)]
      · rename_i hk
        rw [if_neg hk] at hroom
        unfold Wl.append; rw [hr, hlen, if_neg (by decide), if_pos hroom]
    · right
      refine ⟨h4, by omega, ?_⟩
      unfold Wl.take
      by_cases hk : k % 8 = 3
      · simp only [if_pos hk] at hroom ⊢
        obtain ⟨D', e, hs, hlo⟩ := check_calm h.calm hok h.whole (by rw [h.size]; omega) (b := actBytes n f) (by omega) (by rw [hlen]; omega) (by omega)
        rw [hlen] at e
        exact ⟨D', e, hs.calm, by rw [hs.size, h.size]; rfl, hlo, ⟨hok.n0, hok.n1, by have := hok.t0; show 0 ≤ L.turn + 1; omega, by show L.turn + 1 < 4294967296; omega, Nat.le_refl 1, by show ((1 : Nat) : Int) ≤ sectorsOf (cntOf n); omega, by show sectorsOf _ ≤ L.n; omega, fun l hl => by
          rw [List.mem_singleton.1 hl]; omega⟩, rfl⟩
      · simp only [if_neg hk] at hroom ⊢
        obtain ⟨D', e, hs, hlo, _⟩ := append_calm h.calm hok h.whole (by rw [h.size]; omega) (b := actBytes n f) (by omega) (by rw [hlen]; omega)
        rw [hlen] at e
        have h1 := hok.s1
        refine ⟨D', e, hs.calm, by rw [hs.size, h.size]; rfl, hlo, ⟨hok.n0, hok.n1, hok.t0, hok.t1, by unfold Wl.more; simp, ?_, ?_, fun l hl => ?_⟩, h.whole⟩
        · show (((L.said ++ [actBytes n f]).length : Nat) : Int) ≤ L.fin + sectorsOf (cntOf n)
          rw [List.length_append, List.length_singleton]; omega
        · show L.fin + sectorsOf (cntOf n) ≤ L.n
          omega
        · rcases List.mem_append.1 hl with h2 | h2
          · exact hok.each l h2
          · rw [List.mem_singleton.1 h2]; omega
theorem actKind4 (w : World) (k n : Int) (f : UInt8) (a : Option Addr) (m c : Nat) (h0 : 0 ≤ k) (h1 : k < 8) : Calls Try.prog 16 #[actV k n f (.slice a m c)] w fun e w' => e = .returned (.int .i64 k) ∧ Upd NoS w w' := by
  refine (actKind w k n f a m c).mono ?_
  rintro e w' ⟨rfl, hu⟩
  exact ⟨by rw [show k % 8 = k by omega], hu⟩
theorem Own.turnIs {w0 w : World} {p d : Nat} {D : Dk} {L : Wl} (h : Own w0 w p d D L) {k : Int} (hk : L.turn = k) : Calls Try.prog 19 #[.pointer (some ⟨p, 0, none⟩)] w fun e w' => e = .returned (.int .u32 k) ∧ Own w0 w' p d D L := by
  rw [← hk]; exact h.turn
theorem Own.broken {w0 w : World} {p d : Nat} {D : Dk} {L : Wl} (h : Own w0 w p d D L) {b : Bool} (hk : L.broken = b) : Calls Try.prog 20 #[.pointer (some ⟨p, 0, none⟩)] w fun e w' => e = .returned (.bool b) ∧ Own w0 w' p d D L := by
  have h' := h
  obtain ⟨S, h1, _⟩ := h'
  refine (walBroken w p d D S L h1).mono ?_
  rintro e w' ⟨rfl, hu⟩
  exact ⟨by rw [hk], h.no hu⟩
def RoomI (w : World) (p d : Nat) (n : Int) (xs : List Ac) (k : Nat) (F T : Int) (wr : World) : Prop := ∃ D L, k ≤ 20 ∧ k ≤ xs.length ∧ L.fin = F ∧ L.turn = T ∧ L.n = n ∧ L.turn ≤ (k : Int) ∧ Calmly D L ∧ Own w wr p d D L
set_option maxRecDepth 100000 in
set_option maxHeartbeats 4000000 in
theorem walRoomIs (w : World) (area : Int) (v : Value) (xs : List Ac) (hxs : IsActs w v xs) : Calls Try.prog 4 #[.int .i64 area, v] w fun e w' => e = .returned (.bool true) ∧ Upd NoS w w' := by
  have HX := Lib.hid hxs
  obtain ⟨av, cv, rfl, hlc, hcm⟩ := hxs.shape
  unfold maxLen at hcm
  clear hxs
  go_enter Try.func4, Try.ntmps4
  go_wp2_with (go_at_call 9; refine halted ?_)
  unfold Halted
  refine (wakesIs w).mono ?_
  rintro e1 w1 ⟨rfl, hu1⟩
  have HU1 := Lib.hid hu1
  clear hu1
  obtain ⟨hn1, hn2⟩ := lenOf_bounds area
  obtain ⟨n, hn⟩ : ∃ n, n = lenOf area := ⟨_, rfl⟩
  have HN := Lib.hid hn
  rw [← hn] at hn1 hn2
  clear hn
  go_wp2_with (first
    | (go_at_call 12; refine (lawLength _ _).mono ?_; rintro e w' ⟨rfl, hw⟩; have hw := hw.symm; subst hw; rw [← HN.out])
    | (go_at_call 13; refine halted ?_))
  unfold Halted
  refine (lawFresh w1 n hn1 (by omega)).mono ?_
  rintro e2 w2 ⟨p, d, rfl, ho⟩
  have HO := Lib.hid ho
  clear ho
  go_wp2
  go_loopw [30, 8, 9] (fun iv lv tv wr => ∃ (k : Nat) (F T : Int), iv = .int .i64 (k : Int) ∧ lv = .int .i64 (n - F) ∧ tv = .int .u32 T ∧ 1 ≤ F ∧ F ≤ n ∧ 0 ≤ T ∧ T ≤ k ∧ k ≤ 20 ∧ k ≤ xs.length ∧ RoomI w1 p d n xs k F T wr) (fun iv _ _ _ => xs.length - (intOf iv).toNat)
  case atStart => exact ⟨0, 1, 0, rfl, rfl, rfl, by omega, by omega, by omega, by omega, by omega, by omega, _, _, by omega, by omega, rfl, rfl, rfl, by show (0 : Int) ≤ ((0 : Nat) : Int); omega, freshCalmly hn1 (by omega), HO.out⟩
  case round =>
    obtain ⟨k, F, T, rfl, rfl, rfl, hF1, hF2, hT1, hT2, hk20, hkl, hI⟩ := hrel
    by_cases hlt : k < xs.length
    · obtain ⟨x, hx⟩ : ∃ x, xs[k]? = some x := ⟨_, List.getElem?_eq_getElem hlt⟩
      obtain ⟨D, L, _, _, hLF, hLT, hLn, hLt, hcal, hown⟩ := hI
      have hwr : Upd NoS w1 wr := hown.choose_spec.2.2.2
      obtain ⟨_, g, o, rfl, q0, q1, q2, q3⟩ := (HX.out.upd (HU1.out.tr hwr)).at hx
      unfold Ac.kv at q3
      have HOW := Lib.hid hown
      have HCAL := Lib.hid hcal
      have HLF := Lib.hid hLF
      have HLT := Lib.hid hLT
      have HLN := Lib.hid hLn
      clear hx hown hwr hcal hLF hLT hLn
      by_cases hk20' : k = 20
      · have hb : ((k : Int) == 20) = true := by rw [hk20']; rfl
        clear hk20'
        go_wp2
        go_ret
        obtain ⟨S, _, _, _, hu⟩ := HOW.out
        exact ⟨rfl, (HU1.out.tr hu).alloc _⟩
      · have hk19 : (k : Int) < 20 := by omega
        have hk19n : (k : Int) ≠ 20 := by omega
        clear hk20'
        go_wp2_with (first
          | (go_at_call 14; refine halted ?_))
        unfold Halted
        refine (actTaking _ x.kind x.n x.fill x.ka x.keep.length x.kc).mono ?_
        rintro e3 w3 ⟨rfl, hu3⟩
        obtain ⟨kk, hkk⟩ : ∃ kk, kk = x.kind % 4 := ⟨_, rfl⟩
        obtain ⟨nn, hnn⟩ : ∃ nn, nn = takN x.n := ⟨_, rfl⟩
        have hk0 : 0 ≤ kk := by omega
        have hk4 : kk < 4 := by omega
        have hk8 : kk % 8 = kk := by omega
        obtain ⟨C, hC⟩ : ∃ C, C = cntOf nn := ⟨_, rfl⟩
        have hCl : C ≤ 40001 := by rw [hC]; exact cntOf_le nn
        have hLEN : (actBytes nn x.fill).length = C := by rw [length_actBytes, hC]
        have hta := take_calm HCAL.out (k := kk) (n := nn) (f := x.fill) (by omega)
        rw [← hC, hk8] at hta
        obtain ⟨M, hM⟩ : ∃ M, M = sectorsOf (C : Int) := ⟨_, rfl⟩
        rw [← hM] at hta
        have hM1 : M ≤ 834 ∧ 0 ≤ M := by rw [hM]; unfold sectorsOf; split <;> (try split) <;> omega
        obtain ⟨hM1, hM2⟩ := hM1
        have HM0 : Hid (C ≤ 40000 → 1 ≤ M) := fun h => by rw [hM]; exact (sectors_le h).1
        rw [← hkk, ← hnn]
        have hA3 := hu3.heap (heap_new wr (.cells #[.int .i64 x.kind, .int .i64 x.n, .int .u8 (x.fill.toNat : Int), .slice x.ka x.keep.length x.kc] 33)) id
        have HU3 := Lib.hid (((Upd.refl NoS wr).alloc (.cells #[.int .i64 x.kind, .int .i64 x.n, .int .u8 (x.fill.toNat : Int), .slice x.ka x.keep.length x.kc] 33)).tr hu3)
        obtain ⟨B, hB⟩ : ∃ B, B = wr.heap.size := ⟨_, rfl⟩
        rw [← hB] at hA3 ⊢
        have c0 := cell_at hA3 0
        have c1 := cell_at hA3 1
        have c2 := cell_at hA3 2
        have c3 := cell_at hA3 3
        have f0 := free_at hA3 0
        have f1 := free_at hA3 1
        have f2 := free_at hA3 2
        have f3 := free_at hA3 3
        simp only [List.getElem?_toArray, List.getElem?_cons_zero, List.getElem?_cons_succ] at c0 c1 c2 c3
        have HTA := Lib.hid hta
        have HA3 := Lib.hid hA3
        have HLEN := Lib.hid hLEN
        have HM := Lib.hid hM
        have HB := Lib.hid hB
        clear hta hLEN hM hB hC hkk hnn hk8 hA3 hu3 q0 q1 q2 q3
        unfold actV
        go_wp2_with (first
          | (go_at_call 15; refine halted ?_))
        unfold Halted
        refine calls_name ?_
        intro W4 hW4
        have hA4 : W4.heap[B]? = some (.cells #[.int .i64 kk, .int .i64 nn, .int .u8 (x.fill.toNat : Int), .slice x.ka x.keep.length x.kc] 33 (0, 0)) := by
          rw [hW4]
          exact heap_set (heap_set (heap_set (heap_set HA3.out 0 _) 1 _) 2 _) 3 _
        have hu4 : Upd NoS wr W4 := by
          rw [hW4]
          have hb := HB.out
          exact (((HU3.out.setCell _ _ (fun h => absurd h (by show ¬ B < _; omega))).setCell _ _ (fun h => absurd h (by show ¬ B < _; omega))).setCell _ _ (fun h => absurd h (by show ¬ B < _; omega))).setCell _ _ (fun h => absurd h (by show ¬ B < _; omega))
        clear hW4 c0 c1 c2 c3 f0 f1 f2 f3
        refine (actBytesIs _ kk nn x.fill x.ka x.keep.length x.kc).mono ?_
        rintro e5 w5 ⟨a5, m5, rfl, _, hu5⟩
        have hA5 := hu5.heap hA4 id
        have q0 := cell_at hA5 0
        have q1 := cell_at hA5 1
        have q2 := cell_at hA5 2
        have q3 := cell_at hA5 3
        simp only [List.getElem?_toArray, List.getElem?_cons_zero, List.getElem?_cons_succ] at q0 q1 q2 q3
        have HU := Lib.hid (hu4.tr hu5)
        rw [HLEN.out]
        have hta := HTA.out
        clear hA4 hu4 hu5 hA5
        by_cases h3 : kk = 3
        all_goals first
          | (subst h3; simp only [if_true] at hta)
          | (simp only [if_neg h3] at hta)
        all_goals
          clear HTA
          rcases hta with ⟨hC1, he⟩ | ⟨hC1, hM3, he⟩ | ⟨hC1, hM3, D', he, hcal'⟩
        all_goals
          have HE := Lib.hid he
          clear he
          first
            | (have HC2 := Lib.hid hcal'; clear hcal'
               first
                 | (have HT := Lib.hid (show (L.anew (actBytes nn x.fill) M).turn = T + 1 from congrArg (· + 1) HLT.out)
                    have HF := Lib.hid (show (L.anew (actBytes nn x.fill) M).n - (L.anew (actBytes nn x.fill) M).fin = n - M from congrArg (· - M) HLN.out)
                    have HC2' : Hid (Calmly D' (L.anew (actBytes nn x.fill) M)) := HC2
                    have HN2 := Lib.hid (show (L.anew (actBytes nn x.fill) M).n = n from HLN.out)
                    have HF2 := Lib.hid (show (L.anew (actBytes nn x.fill) M).fin = M from rfl))
                 | (have HT := Lib.hid (show (L.more (actBytes nn x.fill) M).turn = T from HLT.out)
                    have HF := Lib.hid (show (L.more (actBytes nn x.fill) M).n - (L.more (actBytes nn x.fill) M).fin = n - F - M by show L.n - (L.fin + M) = n - F - M; rw [HLN.out, HLF.out]; omega)
                    have HC2' : Hid (Calmly D' (L.more (actBytes nn x.fill) M)) := HC2
                    have HN2 := Lib.hid (show (L.more (actBytes nn x.fill) M).n = n from HLN.out)
                    have HF2 := Lib.hid (show (L.more (actBytes nn x.fill) M).fin = F + M from congrArg (· + M) HLF.out)))
            | (have HT := Lib.hid (show L.turn = T from HLT.out)
               have HF := Lib.hid (show L.n - L.fin = n - F by rw [HLN.out, HLF.out])
               have HC2 := HCAL
               have HN2 := HLN
               have HF2 := HLF)
          try rw [HLN.out] at hM3
          try rw [HLF.out] at hM3
          refine halted ?_
        all_goals
          unfold Halted
          go_wp2_with (first
            | (go_at_call 10; refine (walSectors _ _).mono ?_; rintro e w' ⟨rfl, hw⟩; have hw := hw.symm; subst hw; rw [← HM.out])
            | (go_at_call 16; refine (actKind4 _ _ nn x.fill x.ka x.keep.length x.kc hk0 (by omega)).mono ?_; rintro e w' ⟨rfl, hu⟩; replace HU := Lib.hid (HU.out.tr hu); replace q0 := hu.cell q0 id; replace q1 := hu.cell q1 id; replace q2 := hu.cell q2 id; replace q3 := hu.cell q3 id; clear hu)
            | (go_at_call 15; refine (actBytesIs _ _ nn x.fill x.ka x.keep.length x.kc).mono ?_; rintro e w' ⟨a', m', rfl, _, hu⟩; rw [HLEN.out]; replace HU := Lib.hid (HU.out.tr hu); replace q0 := hu.cell q0 id; replace q1 := hu.cell q1 id; replace q2 := hu.cell q2 id; replace q3 := hu.cell q3 id; clear hu)
            | (go_at_call 17; refine ((HOW.out.no HU.out).take HE.out (by rw [HCAL.out.loose]; simp) _ _ _).mono ?_; rintro e w' ⟨rfl, ho⟩; have HO2 := Lib.hid ho; clear ho q0 q1 q2 q3)
            | (go_at_call 18; refine (Own.left HO2.out HF.out).mono ?_; rintro e w' ⟨rfl, ho⟩; replace HO2 := Lib.hid ho; clear ho)
            | (go_at_call 19; refine (Own.turnIs HO2.out HT.out).mono ?_; rintro e w' ⟨rfl, ho⟩; replace HO2 := Lib.hid ho; clear ho)
            | (go_at_call 20; refine (Own.broken HO2.out HC2.out.whole).mono ?_; rintro e w' ⟨rfl, ho⟩; replace HO2 := Lib.hid ho; clear ho))
          refine ⟨⟨k + 1, _, _, by go_num, by first | rfl | (refine congrArg _ ?_; omega), rfl, by have := HM0.out; omega, by omega, by omega, by omega, by omega, by omega, _, _, by omega, by omega, HF2.out, HT.out, HN2.out, by have := HT.out; omega, HC2.out, HO2.out⟩, by simp [intOf]; omega⟩
    · have HI := Lib.hid hI
      clear hI
      go_wp2
      go_ret
      obtain ⟨D, L, _, _, _, _, _, _, _, hown⟩ := HI.out
      obtain ⟨S, _, _, _, hu⟩ := hown
      exact ⟨rfl, HU1.out.tr hu⟩
end Go.Proofs.Ytomgdfoahfhijaa
