/- What an opening left is found once more, and nothing is written (safehouselaw04.WalStill): the walk. -/
import Derived.Test.YtomgdfoahfhijaaLas
set_option linter.unusedVariables false
set_option linter.unusedSimpArgs false
namespace Go.Proofs.Ytomgdfoahfhijaa
open Go.RowKit

/-- The older log over a disk that was opened once more. -/
theorem IsWal.beside {w w' : World} {p q d : Nat} {D D2 : Dk} {S S2 : Nat → Prop} {L L2 : Wl} (h : IsWal w p d D S L) (h2 : IsWal w' q d D2 S2 L2) (hS : ∀ k, S2 k → S k ∨ w.heap.size ≤ k) (hu : Upd (fun k => S k ∨ k = q) w w') (hq : w.heap.size ≤ q) : IsWal w' p d D2 S2 L := by
  obtain ⟨g1, g2, g3, vs, g4, g5⟩ := h
  have hp := lt_of_heap g4
  have hS' : ∀ k, k < w.heap.size → S2 k → S k := fun k hk e => (hS k e).elim id (fun e => absurd e (by omega))
  exact ⟨h2.disk, fun e => g2 (hS' p hp e), g3, vs, hu.heap g4 (fun e => e.elim g2 (fun e => by omega)), (g5.upd (hu.mono (T := fun k => S k ∨ w.heap.size ≤ k) (fun k _ e => e.imp id (fun e => by omega))) (fun k hk e => e.elim .inl (fun e => absurd hk (by omega))) (fun k hk e => e.imp (hS' k hk) id))⟩
theorem take_found {D : Dk} {L : Wl} (h : D.Up) (hg : Good D.holds L) (hL : L.Ok) (hb : L.broken = false) (hl : D.loose = []) (hs : 2 * L.n + 2 ≤ D.size) (k n : Int) (f : UInt8) (g : Nat → Bool) :
    ∃ LX, Finds ((L.take D k n f).2.1.crash g) LX ∧ LX.Ok ∧ LX.broken = false := by
  have hnw := nextL_whole hb k n f
  have hnn := nextL_n L k n f
  rcases take_up h hg hL hb hl hs k n f with ⟨c, hc, e⟩ | ⟨D', e, hlay, hgd, hokn⟩ | ⟨D', e, hdown, hsz, hon, hcr⟩
  · rw [e]
    exact ⟨L, ⟨Dk.crash_calm _ _, rfl, by rw [show (D.crash g).holds = D.holds from funext (crash_quiet hl _)]; exact hg.torn hL, by rw [crash_size]; exact hs⟩, hL, hb⟩
  · rw [e]
    exact ⟨_, ⟨Dk.crash_calm _ _, rfl, by rw [show (D'.crash g).holds = D'.holds from funext (crash_quiet hlay.loose _)]; exact hgd.torn hokn, by rw [crash_size, hlay.size, hnn]; exact hs⟩, hokn, hnw⟩
  · rw [e]
    rcases hcr g with ht | ⟨ht, hokn⟩
    · exact ⟨L, ⟨Dk.crash_calm _ _, rfl, ht, by rw [crash_size, hsz]; exact hs⟩, hL, hb⟩
    · exact ⟨_, ⟨Dk.crash_calm _ _, rfl, ht.torn hokn, by rw [crash_size, hsz, hnn]; exact hs⟩, hokn, hnw⟩
set_option maxRecDepth 100000 in
set_option maxHeartbeats 4000000 in
theorem walStillIs (w : World) (v1 : Value) (xs : List Ac) (hxs : IsActs w v1 xs) (y : Ac) (hy : y.Reads w) : Calls Try.prog 8 #[v1, y.val] w fun e w' => e = .returned (.bool true) ∧ Upd NoS w w' := by
  have HX := Lib.hid hxs
  have HY := Lib.hid hy
  obtain ⟨av, cv, rfl, hlc, hcm⟩ := hxs.shape
  unfold maxLen at hcm
  unfold Ac.val Ac.kv actV
  obtain ⟨yk, yn, yf, ykl, yka, ykc⟩ := y
  simp only
  clear hxs hy
  go_enter Try.func8, Try.ntmps8
  go_wp2_with (go_at_call 9; refine halted ?_)
  unfold Halted
  refine calls_name ?_
  intro W1 hW1
  obtain ⟨B, hB⟩ : ∃ B, B = w.heap.size := ⟨_, rfl⟩
  have hu1 : Upd NoS w W1 := by rw [hW1]; exact (Upd.refl NoS w).alloc _
  have hb0 : W1.heap[B]? = some (.cells #[.int .i64 yk, .int .i64 yn, .int .u8 (yf.toNat : Int), .slice yka ykl.length ykc] 33 (0, 0)) := by rw [hW1, hB]; exact heap_new _ _
  rw [← hB]
  clear hW1
  refine (wakesIs W1).mono ?_
  rintro e2 w2 ⟨rfl, hu2⟩
  have HU2 := Lib.hid (hu1.tr hu2)
  have HB2 := Lib.hid (hu2.heap hb0 id)
  have HBW := Lib.hid hB
  clear hB hu1 hu2 hb0
  go_wp2_with (go_at_call 13; refine halted ?_)
  unfold Halted
  refine (lawFresh w2 7 (by decide) (by decide)).mono ?_
  rintro e3 w3 ⟨p, d, rfl, S0, hI3, hS3, hp3, hu3⟩
  have HI3 := Lib.hid hI3
  have HS3 := Lib.hid hS3
  have HU3 := Lib.hid hu3
  clear hI3 hS3 hu3
  go_wp2_with (go_at_call 29; refine halted ?_)
  unfold Halted
  refine (livedIs w3 p d _ S0 _ HI3.out _ xs (fun W hu => HX.out.upd ((HU2.out.tr HU3.out).trans hu (fun j hj e => by
    have h1 := HU2.out.size
    rcases e with e | e
    · have := HS3.out j e; omega
    · omega))) (LastR 7) ⟨by omega, freshCalmly (by decide) (by decide), by show (0 : Int) ≤ ((0 : Nat) : Int); omega, format_good (by decide) (by decide), rfl⟩ (fun j D L h => ⟨h.2.1, h.2.2.1⟩) (fun j D L k n f h hj _ _ => lastR_step 7 j D L k n f h hj)).mono ?_
  rintro e5 w5 ⟨v5, rfl, j5, D5, L5, S5, hR5, hI5, hS5, hu5, hacc5⟩
  obtain ⟨a5, c5, rfl, hl5, _, _⟩ := hacc5.shape
  have hlt3 := HI3.out.disk.lt
  have hp3l := HI3.out.ltp
  have hB2l := lt_of_heap HB2.out
  have hold : ∀ j, j < w2.heap.size → ¬ (S0 j ∨ j = p) := fun j hj e => by
    rcases e with e | e
    · have := HS3.out j e; omega
    · omega
  have hb5 := hu5.heap (HU3.out.heap HB2.out id) (hold B hB2l)
  have hS52 : ∀ j, S5 j → w2.heap.size ≤ j := fun j hj => by
    rcases hS5 j hj with h | h
    · exact HS3.out j h
    · have := HU3.out.size; omega
  have huw5 : Upd NoS w w5 := (HU2.out.tr HU3.out).trans hu5 (fun j hj e => hold j (by have := HU2.out.size; omega) e)
  have q1 := cell_at hb5 1
  simp only [List.getElem?_toArray, List.getElem?_cons_zero, List.getElem?_cons_succ] at q1
  have HR5 := Lib.hid hR5
  have HI5 := Lib.hid hI5
  have HS52 := Lib.hid hS52
  have HB5 := Lib.hid hb5
  have HUW5 := Lib.hid huw5
  have HACC5 := Lib.hid hacc5
  clear hR5 hI5 hS5 hu5 hacc5 hb5 hS52 huw5 hold hlt3
  go_wp2_with (go_at_call 31; refine halted ?_)
  unfold Halted
  rw [wrap_mod yn 22 (by decide) (by decide)]
  obtain ⟨r, hr⟩ : ∃ r, r = yn % 18446744073709551616 % 22 := ⟨_, rfl⟩
  have hr0 : 0 ≤ r := by omega
  have hr1 : r < 22 := by omega
  rw [← hr]
  clear hr
  have hcal5 := HR5.out.2.1
  have hgood5 := HR5.out.2.2.2.1
  have ea : D5.arm r = (0, D5.set r) := by unfold Dk.arm; rw [if_neg (by rw [hcal5.calm.1]; decide)]
  refine (dskArm w5 d D5 S5 HI5.out.disk r (by omega) (by omega)).mono ?_
  rintro e6 w6 ⟨rfl, hto6⟩
  rw [ea] at hto6 ⊢
  obtain ⟨S6, hW6, hS6, hu6⟩ := HI5.out.dsk hto6
  have hu6' : Upd S5 w5 w6 := hto6.choose_spec.2.2.1
  have hnB5 : ¬ S5 B := fun e => by have := HS52.out B e; omega
  have hb6 := hu6'.heap HB5.out hnB5
  have hS62 : ∀ j, S6 j → w2.heap.size ≤ j := fun j hj => by
    rcases hS6 j hj with h | h
    · exact HS52.out j h
    · have := HUW5.out.size; have h1 := HI5.out.ltp; omega
  have huw6 : Upd NoS w w6 := HUW5.out.trans hu6' (fun j hj e => by have := HS52.out j e; have := HU2.out.size; omega)
  have hacc6 : Acc w6 (.slice a5 L5.said.length c5) L5.said (fun j => ¬ (S6 j ∨ j = p)) := by
    have h1 := HACC5.out.mono (T' := fun j => ¬ (S5 j ∨ j = p) ∧ j < w5.heap.size) (fun j hj h => ⟨fun e => e.elim h.2 (fun e => by have := h.1; omega), hj⟩)
    refine (h1.upd hu6' (fun j _ h e => h.1 (.inl e))).mono (fun j _ h e => ?_)
    rcases e with e | e
    · rcases hS6 j e with h2 | h2
      · exact h.1 (.inl h2)
      · have := h.2; omega
    · exact h.1 (.inr e)
  have HW6 := Lib.hid hW6
  have HB6 := Lib.hid hb6
  have HS62 := Lib.hid hS62
  have HUW6 := Lib.hid huw6
  have HACC6 := Lib.hid hacc6
  have c0 := cell_at hb6 0
  have c1 := cell_at hb6 1
  have c2 := cell_at hb6 2
  have c3 := cell_at hb6 3
  simp only [List.getElem?_toArray, List.getElem?_cons_zero, List.getElem?_cons_succ] at c0 c1 c2 c3
  clear hW6 hS6 hu6 hu6' hb6 hS62 huw6 hacc6 hto6 ea q1 hnB5 hcal5 hgood5
  go_wp2_with (go_at_call 14; refine halted ?_)
  unfold Halted
  refine (actTaking _ yk yn yf yka ykl.length ykc).mono ?_
  rintro e7 w7 ⟨rfl, hu7⟩
  obtain ⟨kk, hkk⟩ : ∃ kk, kk = yk % 4 := ⟨_, rfl⟩
  obtain ⟨nn, hnn⟩ : ∃ nn, nn = takN yn := ⟨_, rfl⟩
  rw [← hkk, ← hnn]
  have HU7 := Lib.hid hu7
  replace c0 := hu7.cell c0 id
  replace c1 := hu7.cell c1 id
  replace c2 := hu7.cell c2 id
  replace c3 := hu7.cell c3 id
  clear hu7 hkk hnn
  unfold actV
  go_wp2_with (go_at_call 17; refine halted ?_)
  unfold Halted
  have hcal5 := HR5.out.2.1
  have hsz5 : 2 * L5.n + 2 ≤ (D5.set r).size := by show 2 * L5.n + 2 ≤ D5.size; rw [hcal5.size]; omega
  have hgd5 : Good (D5.set r).holds L5 := HR5.out.2.2.2.1
  have hlo5 : (D5.set r).loose = [] := hcal5.loose
  have htf := take_found (D := D5.set r) (L := L5) ⟨hcal5.calm.1, hcal5.calm.2.2⟩ hgd5 hcal5.ok hcal5.whole hlo5 hsz5 kk nn yf
  refine (walTake w7 p d (D5.set r) S6 L5 (HW6.out.updNo HU7.out) kk nn yf yka ykl.length ykc (by rw [hlo5]; simp)).mono ?_
  rintro e10 w10 ⟨rfl, ⟨S10, hW10, hS10, hu10⟩, _⟩
  have hfew := take_few (D5.set r) L5 kk nn yf
  rw [hlo5] at hfew
  obtain ⟨D10, hD10⟩ : ∃ D, D = (L5.take (D5.set r) kk nn yf).2.1 := ⟨_, rfl⟩
  obtain ⟨L10, hL10⟩ : ∃ L, L = (L5.take (D5.set r) kk nn yf).2.2 := ⟨_, rfl⟩
  obtain ⟨c, hc10⟩ : ∃ c, c = (L5.take (D5.set r) kk nn yf).1 := ⟨_, rfl⟩
  rw [← hD10] at hfew
  rw [← hD10, ← hL10] at hW10
  simp only [← hD10] at htf
  rw [← hc10]
  clear hD10 hL10 hc10 hlo5 hsz5 hgd5 hcal5
  have hnB9 : ∀ j, j < w2.heap.size → ¬ (S6 j ∨ j = p) := fun j hj e => by
    rcases e with e | e
    · have := HS62.out j e; omega
    · omega
  have huw7 := HUW6.out.tr HU7.out
  have hw7 : w2.heap.size ≤ w7.heap.size := by have := HU7.out.size; have := HW6.out.ltp; omega
  have HNO := Lib.hid (fun (W : World) (h : Later w7 W S6 p) => (huw7.trans h (fun j hj e => by
    have h2 := HU2.out.size
    rcases e with e | e
    · exact hnB9 j (by omega) e
    · omega) : Upd NoS w W))
  have hla10 : Later w7 w10 S6 p := hu10.mono (fun k _ e => .inl e)
  have HLA10 := Lib.hid hla10
  clear hla10
  have hnBB : ¬ (S6 B ∨ B = p) := hnB9 B hB2l
  replace c0 := hu10.cell c0 hnBB
  replace c1 := hu10.cell c1 hnBB
  replace c2 := hu10.cell c2 hnBB
  replace c3 := hu10.cell c3 hnBB
  obtain ⟨ks, hks⟩ : ∃ ks, ks = ykl.take 100 := ⟨_, rfl⟩
  obtain ⟨LF, hfd, hokF, hwhF⟩ := htf (keepB ks)
  have HW10 := Lib.hid hW10
  have HS10 := Lib.hid hS10
  have HFEW := Lib.hid hfew
  have HFD := Lib.hid (And.intro hfd (And.intro hokF hwhF))
  have HKS := Lib.hid hks
  clear hW10 hS10 hu10 hfew hfd hokF hwhF htf hks hnB9 hnBB huw7
  go_wp2_with (go_at_call 36; refine halted ?_)
  unfold Halted
  obtain ⟨M, hM⟩ : ∃ M, M = ks.length := ⟨_, rfl⟩
  have hkept : Calls Try.prog 36 #[.agg #[.int .i64 yk, .int .i64 yn, .int .u8 (yf.toNat : Int), .slice yka ykl.length ykc]] w10 fun e w' => ∃ a c, e = .returned (.slice a M c) ∧ w'.ownsRow w10.heap.size 4 1 (.slice a M c) M (bls ks) ∧ Upd NoS w10 w' := by
    rw [hM, HKS.out]
    exact actKept w10 ⟨yk, yn, yf, ykl, yka, ykc⟩ (HY.out.upd (HNO.out w10 HLA10.out))
  clear hM c0 c1 c2 c3
  refine hkept.mono ?_
  rintro e13 w13 ⟨a13, c13, rfl, hown13, hu13⟩
  have hge13 := own_ge hown13
  have HOWN13 := Lib.hid hown13
  have HLA13 := Lib.hid (HLA10.out.no hu13)
  have HU13 := Lib.hid hu13
  have HGE13 := Lib.hid hge13
  clear hown13 hu13 hge13 hkept
  go_wp2_with (go_at_call 35; refine halted ?_)
  unfold Halted
  have hfp10 : ∀ j, S10 j → S6 j ∨ w7.heap.size ≤ j := HS10.out
  have hk14 : ∀ W, Upd S10 w13 W → Sle W 1 (.slice a13 M c13) (ks.map fun b => [.bool b]) := fun W hu => by
    have h1 := own_upd HOWN13.out hu (fun j hj e => by have h1 := HGE13.out j hj; have h2 := HW10.out.disk.lt j e; omega)
    exact own_sle h1
  refine (dskCrash w13 d _ S10 (HW10.out.disk.updNo HU13.out) (.slice a13 M c13) ks hk14 (by have := HFEW.out; simp at this; omega)).mono ?_
  rintro e14 w14 ⟨rfl, S14, hI14, hS14, hu14, _⟩
  have hfp14 : ∀ j, S14 j → S6 j ∨ w7.heap.size ≤ j := fun j hj => by
    rcases hS14 j hj with h | h
    · exact hfp10 j h
    · have h1 := h.1; have h2 := HLA13.out.size; exact .inr (by omega)
  have HLA14 := Lib.hid (HLA13.out.by hu14 (fun j e => (hfp10 j e).imp .inl id))
  have HI14 := Lib.hid hI14
  have HFP14 := Lib.hid hfp14
  clear hk14 hI14 hS14 hu14 hfp14 hfp10
  go_wp2_with (go_at_call 22; refine halted ?_)
  unfold Halted
  obtain ⟨hfd14, hokF, hwhF⟩ := HFD.out
  refine (openFinds w14 d _ S14 HI14.out _ hfd14 hokF hwhF).mono ?_
  rintro e15 w15 ⟨p15, D15, rfl, hp15, ⟨S15, hW15, hS15, hu15⟩, hfd15, hcl15⟩
  have hp15g : w7.heap.size ≤ p15 := Nat.le_trans HLA14.out.size hp15
  have hfp15 : ∀ j, S15 j → S6 j ∨ w7.heap.size ≤ j := fun j hj => by
    rcases hS15 j hj with h | h
    · exact HFP14.out j h
    · have h2 := HLA14.out.size; exact .inr (by omega)
  have hla15 : Later w7 w15 S6 p := HLA14.out.by hu15 (fun j e => e.elim (fun e => (HFP14.out j e).imp .inl id) (fun e => .inr (by omega)))
  have HW15 := Lib.hid hW15
  have HFP15 := Lib.hid hfp15
  have HLA15 := Lib.hid hla15
  have HFD15 := Lib.hid hfd15
  have HCL15 := Lib.hid hcl15
  clear hW15 hS15 hu15 hfp15 hla15 hfd15 hcl15 hp15 hfd14 hokF hwhF
  go_wp2_with (go_at_call 38; refine halted ?_)
  unfold Halted
  have hpe := dskPending w15 d D15 S15 HW15.out.disk (by rw [HFD15.out.loose]; simp)
  rw [HFD15.out.loose] at hpe
  refine hpe.mono ?_
  rintro e16 w16 ⟨⟨a16, c16, rfl⟩, hu16⟩
  rw [List.length_nil]
  have HU16 := Lib.hid hu16
  clear hpe hu16
  go_wp2_with (go_at_call 31; refine halted ?_)
  unfold Halted
  obtain ⟨ea, hup, hlo, hho, hsz⟩ := HFD15.out.set 0
  refine (dskArm w16 d D15 S15 (HW15.out.disk.updNo HU16.out) 0 (by omega) (by omega)).mono ?_
  rintro e17 w17 ⟨rfl, hto17⟩
  rw [ea] at hto17 ⊢
  have hla17 := HLA15.out.no HU16.out
  have hlp15 := HW15.out.ltp
  obtain ⟨S17, hW17, hS17, hu17⟩ := (HW15.out.updNo HU16.out).dsk hto17
  have hla17 := hla17.by hu17 (fun j e => e.elim (fun e => (HFP15.out j e).imp .inl id) (fun e => .inr (by omega)))
  have hfp17 : ∀ j, S17 j → S6 j ∨ w7.heap.size ≤ j := fun j hj => by
    rcases hS17 j hj with h | h
    · exact HFP15.out j h
    · have h2 := HLA15.out.size; have h3 := HU16.out.size; exact .inr (by omega)
  have HW17 := Lib.hid hW17
  have HLA17 := Lib.hid hla17
  have HFP17 := Lib.hid hfp17
  clear hto17 hW17 hS17 hu17 hla17 hfp17 ea hup hlo hho hsz
  go_wp2_with (go_at_call 22; refine halted ?_)
  unfold Halted
  obtain ⟨ea, hup, hlo, hho, hsz⟩ := HFD15.out.set 0
  obtain ⟨_, hokF, hwhF⟩ := HFD.out
  obtain ⟨D18, eo, hq⟩ := opens_clean hup (by rw [hho]; exact HFD15.out.torn) hokF hwhF hlo (by rw [hsz]; exact HFD15.out.size) (by rw [hho]; exact HCL15.out)
  refine (walOpen w17 d (D15.set 0) S17 HW17.out.disk (by rw [hlo]; simp)).mono ?_
  intro e18 w18 hpost
  rw [eo] at hpost
  obtain ⟨p18, hp18, rfl, S18, hW18, hS18, hu18⟩ := hpost
  have hout : D18.out = false := hq.up.1
  have HX18 := Lib.hid (HW17.out.beside hW18 hS18 hu18 hp18)
  have HW18 := Lib.hid hW18
  have HLA18 := Lib.hid (HLA17.out.by hu18 (fun j e => e.elim (fun e => (HFP17.out j e).imp .inl id) (fun e => by have := HLA17.out.size; exact .inr (by omega))))
  clear hW18 hS18 hu18 hp18 eo hq ea hup hlo hho hsz
  have HOUT := Lib.hid hout
  clear hout
  go_wp2_with (go_at_call 39; refine (dskDead w18 d D18 S18 HW18.out.disk).mono ?_; rintro e w' ⟨rfl, rfl⟩; rw [HOUT.out]; refine halted ?_)
  unfold Halted
  rename World => w18
  go_wp2_with (go_at_call 34; refine halted ?_)
  unfold Halted
  refine (accountIs w18 p15 d D18 S18 _ HX18.out).mono ?_
  rintro e19 w19 ⟨v19, rfl, hacc19, hu19⟩
  obtain ⟨a19, c19, rfl, _⟩ := hacc19.shape
  have HACC19 := Lib.hid hacc19
  have HU19 := Lib.hid hu19
  clear hacc19 hu19
  go_wp2_with (go_at_call 34; refine halted ?_)
  unfold Halted
  refine (accountIs w19 p18 d D18 S18 _ (HW18.out.updNo HU19.out)).mono ?_
  rintro e20 w20 ⟨v20, rfl, hacc20, hu20⟩
  obtain ⟨a20, c20, rfl, _⟩ := hacc20.shape
  have HACC20 := Lib.hid hacc20
  have HU20 := Lib.hid hu20
  clear hacc20 hu20
  have hEE : ∀ l : List (List UInt8), eqLL l l = true := fun l => (eqLL_iff _ _).2 rfl
  go_wp2_with (go_at_call 33; refine (lawEqual _ _ _ _ _ _ _ (HACC19.out.updNo HU20.out) HACC20.out).mono ?_; rintro e w' ⟨rfl, rfl⟩; rw [hEE]; refine halted ?_)
  unfold Halted
  rename World => w20
  go_wp2_with (go_at_call 18; refine halted ?_)
  unfold Halted
  refine (walLeft (w := w20) (h := HX18.out.updNo (HU19.out.tr HU20.out))).mono ?_
  rintro e21 w21 ⟨rfl, hu21⟩
  obtain ⟨lf, hlf⟩ : ∃ x, x = LF.n - LF.fin := ⟨_, rfl⟩
  rw [← hlf]
  have HU21 := Lib.hid ((HU19.out.tr HU20.out).tr hu21)
  have HLF := Lib.hid hlf
  clear hu21 hlf
  go_wp2_with (go_at_call 18; refine halted ?_)
  unfold Halted
  refine (walLeft (w := w21) (h := HW18.out.updNo HU21.out)).mono ?_
  rintro e22 w22 ⟨rfl, hu22⟩
  rw [← HLF.out]
  have HU22 := Lib.hid (HU21.out.tr hu22)
  clear hu22
  go_wp2_with (go_at_call 19; refine halted ?_)
  unfold Halted
  refine (walTurn (w := w22) (h := HX18.out.updNo HU22.out)).mono ?_
  rintro e23 w23 ⟨rfl, hu23⟩
  obtain ⟨tu, htu⟩ : ∃ x, x = LF.turn := ⟨_, rfl⟩
  rw [← htu]
  have HTU := Lib.hid htu
  have HU23 := Lib.hid (HU22.out.tr hu23)
  clear hu23 htu
  go_wp2_with (go_at_call 19; refine halted ?_)
  unfold Halted
  refine (walTurn (w := w23) (h := HW18.out.updNo HU23.out)).mono ?_
  rintro e24 w24 ⟨rfl, hu24⟩
  rw [← HTU.out]
  have HU24 := Lib.hid (HU23.out.tr hu24)
  clear hu24
  go_wp2
  go_ret
  exact ⟨rfl, HNO.out _ (HLA18.out.no HU24.out)⟩
end Go.Proofs.Ytomgdfoahfhijaa
