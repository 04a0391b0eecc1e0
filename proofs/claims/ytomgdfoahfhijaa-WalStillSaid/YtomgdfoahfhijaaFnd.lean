/- found: a disk is opened, and the power goes on the way now and then. -/
import Derived.Test.YtomgdfoahfhijaaDsc
import Derived.Test.YtomgdfoahfhijaaCrs
import Derived.Test.YtomgdfoahfhijaaLiv
set_option linter.unusedVariables false
set_option linter.unusedSimpArgs false
namespace Go.Proofs.Ytomgdfoahfhijaa
open Go.RowKit

theorem IsWal.dsk {w w' : World} {p d : Nat} {D D' : Dk} {S : Nat → Prop} {L : Wl} (h : IsWal w p d D S L) (ht : DskTo w w' d D' S) : WalTo w w' p d D' L S := by
  obtain ⟨S', h1, h2, h3, _⟩ := ht
  obtain ⟨g1, g2, g3, vs, g4, g5⟩ := h
  have hp := lt_of_heap g4
  have hS' : ∀ k, k < w.heap.size → S' k → S k := fun k hk e => (h2 k e).elim id (fun e => absurd e.1 (by omega))
  exact ⟨S', ⟨h1, fun e => g2 (hS' p hp e), g3, vs, h3.heap g4 g2, g5.upd h3 (fun k _ e => .inl e) (fun k hk e => e.imp (hS' k hk) id)⟩, fun k hk => (h2 k hk).imp id (fun e => e.1), h3.mono (fun k _ e => .inl e)⟩
theorem WalTo.tr {w w1 w2 : World} {p d : Nat} {D2 : Dk} {L2 : Wl} {S S1 : Nat → Prop} (hS1 : ∀ k, S1 k → S k ∨ w.heap.size ≤ k) (hu : Upd (fun k => S k ∨ k = p) w w1) (h : WalTo w1 w2 p d D2 L2 S1) : WalTo w w2 p d D2 L2 S := by
  obtain ⟨S2, h1, h2, h3⟩ := h
  exact ⟨S2, h1, fun k hk => (h2 k hk).elim (hS1 k) (fun h => .inr (Nat.le_trans hu.size h)), hu.trans h3 (fun k hk e => e.elim (fun e => (hS1 k e).elim .inl (fun h => absurd hk (by omega))) .inr)⟩
theorem own_sle {w : World} {base e n : Nat} {v : Value} {l : List Bool} (h : w.ownsRow base e 1 v n (bls l)) : Sle w 1 v (l.map fun b => [.bool b]) := by
  have hn : n = l.length := by have := h.1; simp [bls] at this; omega
  subst hn
  rcases h.2 with ⟨rfl, h0⟩ | ⟨g, cap, cur, rfl, hb, hh, hnc, hm, hs, ht⟩
  · obtain rfl : l = [] := List.eq_nil_of_length_eq_zero h0
    exact ⟨none, 0, rfl, Nat.le_refl _, by unfold maxLen; omega, ⟨fun _ => rfl, fun l hl => by simp at hl⟩, fun h => by simp at h⟩
  · refine ⟨_, cap, by rw [List.length_map], by rw [List.length_map]; exact hnc, hm, ⟨(fun e => by cases e), fun x hx => ?_⟩, fun _ => ⟨g, 0, rfl, fun i x hx j u hu => ?_⟩⟩
    · obtain ⟨b, _, rfl⟩ := List.mem_map.1 hx; rfl
    · rw [List.getElem?_map] at hx
      obtain ⟨b, hb', rfl⟩ := Option.map_eq_some_iff.1 hx
      cases j with
      | zero =>
        cases hu
        have hi := (List.getElem?_eq_some_iff.1 hb').1
        have := (Rd.of_own h).at i (u := .bool b) (by unfold bls; rw [List.getElem?_map, hb']; rfl)
        simpa using this
      | succ j => simp at hu
/-- A disk that an opening finds L on. -/
structure Finds (D : Dk) (L : Wl) : Prop where
  calm : D.Calm
  loose : D.loose = []
  torn : Torn D.holds L
  size : 2 * L.n + 2 ≤ D.size
theorem Finds.set {D : Dk} {L : Wl} (h : Finds D L) (r : Int) : (D.arm r) = (0, D.set r) ∧ (D.set r).Up ∧ (D.set r).loose = [] ∧ (D.set r).holds = D.holds ∧ (D.set r).size = D.size := by
  refine ⟨by unfold Dk.arm; rw [if_neg (by rw [h.calm.1]; decide)], ⟨h.calm.1, h.calm.2.2⟩, h.loose, rfl, rfl⟩
theorem Fell.finds {D D' : Dk} {L : Wl} (hL : L.Ok) (hl : D.loose = []) (ht : Torn D.holds L) (hs : 2 * L.n + 2 ≤ D.size) (h : Fell D D' (Noughts (fromOf L.n L.turn + L.fin) (L.n - L.fin))) (f : Nat → Bool) : Finds (D'.crash f) L :=
  ⟨D'.crash_calm f, rfl, ht.noughts hL (fun k => (h.crash hl f k).imp id (fun e => ⟨e.1, by have := e.2.1; omega, e.2.2⟩)), by rw [crash_size, h.size]; exact hs⟩
theorem wrap_mod (n m : Int) (h0 : 0 < m) (h1 : m ≤ 1000000) : wrap64 ((IntKind.u64.wrap n).tmod m) = n % 18446744073709551616 % m := by
  have h2 := Int.emod_nonneg (n % 18446744073709551616) (show m ≠ 0 by omega)
  have h3 := Int.emod_lt_of_pos (n % 18446744073709551616) h0
  rw [u64_tmod, wrap64_small h2 (by omega)]
theorem clears_few (fr : Int) : ∀ (rest : List (List UInt8)) (D : Dk) (i : Nat) (sync : Bool), (D.clearsGo fr i rest sync).2.loose.length ≤ D.loose.length + rest.length
  | [], D, i, sync => by
    unfold Dk.clearsGo
    split
    · have := Dk.sync_loose D; omega
    · exact Nat.le_refl _
  | s :: rest, D, i, sync => by
    unfold Dk.clearsGo
    rw [List.length_cons]
    split
    · have := clears_few fr rest D (i + 1) sync; omega
    · have h1 := Dk.write_loose D (fr + i) zero64
      split
      · have := clears_few fr rest (D.write (fr + i) zero64).2 (i + 1) true; omega
      · omega
theorem fieldOf_few (fr : Int) : ∀ (n i : Nat) (D : Dk) (acc : List (List UInt8)), (Dk.fieldOf fr n i D acc).2.2.loose = D.loose ∧ (Dk.fieldOf fr n i D acc).2.1.length ≤ acc.length + n
  | 0, i, D, acc => ⟨rfl, Nat.le_refl _⟩
  | n + 1, i, D, acc => by
    have h1 := Dk.read_loose D (fr + i)
    unfold Dk.fieldOf
    split
    · obtain ⟨g1, g2⟩ := fieldOf_few fr n (i + 1) (D.read (fr + i)).2.2 (acc ++ [(D.read (fr + i)).1])
      exact ⟨g1.trans h1, by rw [List.length_append, List.length_singleton] at g2; omega⟩
    · exact ⟨h1, Nat.zero_le _⟩
theorem opens_few {D : Dk} (h : D.Ok) : D.opens.2.1.loose.length ≤ D.loose.length + 1000 := by
  have hl := counts_loose D
  unfold Dk.opens
  cases hq : D.counts.2.1 with
  | none => simp only; rw [hl]; omega
  | some b =>
    simp only
    obtain ⟨⟨_, hb, _⟩, _⟩ := (counts_ok h).1 b hq
    obtain ⟨g1, g2⟩ := fieldOf_few (fromOf b.1 b.2) b.1.toNat 0 D.counts.2.2 []
    unfold Dk.openR
    split
    · unfold Dk.openF
      split
      · show (Dk.fieldOf _ _ _ _ _).2.2.loose.length ≤ _
        rw [g1, hl]; omega
      · have key : ∀ L : Wl, ((Dk.fieldOf (fromOf b.1 b.2) b.1.toNat 0 D.counts.2.2 []).2.2.clears L (Dk.fieldOf (fromOf b.1 b.2) b.1.toNat 0 D.counts.2.2 []).2.1).2.loose.length ≤ D.loose.length + 1000 := fun L => by
          have h1 := clears_few (fromOf L.n L.turn) ((Dk.fieldOf (fromOf b.1 b.2) b.1.toNat 0 D.counts.2.2 []).2.1.drop L.fin.toNat) (Dk.fieldOf (fromOf b.1 b.2) b.1.toNat 0 D.counts.2.2 []).2.2 L.fin.toNat (decide (0 < (Dk.fieldOf (fromOf b.1 b.2) b.1.toNat 0 D.counts.2.2 []).2.2.loose.length))
          unfold Dk.clears
          have h2 : ((Dk.fieldOf (fromOf b.1 b.2) b.1.toNat 0 D.counts.2.2 []).2.1.drop L.fin.toNat).length ≤ 1000 := by
            rw [List.length_drop]
            simp only [List.length_nil] at g2
            omega
          have h3 : (Dk.fieldOf (fromOf b.1 b.2) b.1.toNat 0 D.counts.2.2 []).2.2.loose.length = D.loose.length := by rw [g1, hl]
          omega
        split
        · exact key _
        · exact key _
    · show (Dk.fieldOf _ _ _ _ _).2.2.loose.length ≤ _
      rw [g1, hl]; omega
def FndI (w : World) (d : Nat) (S : Nat → Prop) (L : Wl) (W : World) : Prop := ∃ D S', Finds D L ∧ IsDisk W d D S' ∧ (∀ k, S' k → S k ∨ w.heap.size ≤ k) ∧ Upd S w W
set_option maxRecDepth 100000 in
set_option maxHeartbeats 2000000 in
theorem foundIs (w : World) (d : Nat) (D : Dk) (S : Nat → Prop) (h : IsDisk w d D S) (L : Wl) (hL : L.Ok) (hb : L.broken = false) (hf : Finds D L) (v : Value) (xs : List Ac) (hX : ∀ W, Upd S w W → IsActs W v xs) :
    Calls Try.prog 37 #[.pointer (some ⟨d, 0, none⟩), v] w fun e w' => ∃ p D', e = .returned (.pointer (some ⟨p, 0, none⟩)) ∧ w.heap.size ≤ p ∧ WalTo w w' p d D' L S ∧ Finds D' L ∧ Clean D'.holds L := by
  have HX := Lib.hid hX
  have HI0 : Hid (FndI w d S L w) := Lib.hid ⟨D, S, hf, h, fun k hk => .inl hk, Upd.refl _ _⟩
  have HL := Lib.hid hL
  have HB := Lib.hid hb
  obtain ⟨av, cv, rfl, hlc, hcm⟩ := (hX w (Upd.refl _ w)).shape
  unfold maxLen at hcm
  clear h hX hL hb hf
  go_enter Try.func37, Try.ntmps37
  go_wp2
  go_loopw [13] (fun iv wr => ∃ k : Nat, k ≤ xs.length ∧ k ≤ 5 ∧ iv = .int .i64 (k : Int) ∧ FndI w d S L wr) (fun iv _ => xs.length - (intOf iv).toNat)
  case atStart => exact ⟨0, Nat.zero_le _, by omega, rfl, HI0.out⟩
  case round =>
    obtain ⟨k, hkl, hk5, rfl, D1, S1, hf1, hI1, hS1, hu1⟩ := hrel
    have HF1 := Lib.hid hf1
    have HI1 := Lib.hid hI1
    have HS1 := Lib.hid hS1
    have HU1 := Lib.hid hu1
    -- the last opening, where the power stays
    have hlast : ∀ W, Upd NoS wr W → Calls Try.prog 22 #[.pointer (some ⟨d, 0, none⟩)] W fun e w' => ∃ p D', e = .returned (.tuple #[.pointer (some ⟨p, 0, none⟩), .int .i64 0]) ∧ w.heap.size ≤ p ∧ WalTo w w' p d D' L S ∧ Finds D' L ∧ Clean D'.holds L := fun W huW => by
      rcases opens_up hf1.calm.up hf1.torn HL.out HB.out hf1.loose hf1.size with ⟨D', e, g1, g2, g3⟩ | ⟨D', e, g1⟩
      · refine (walOpen W d D1 S1 (hI1.updNo huW) (by rw [hf1.loose]; simp)).mono ?_
        intro e1 w1 hpost
        rw [e] at hpost
        obtain ⟨p, hp, rfl, hto⟩ := hpost
        refine ⟨p, D', rfl, Nat.le_trans (Nat.le_trans hu1.size huW.size) hp, WalTo.tr hS1 ((hu1.trNo huW).mono (fun k _ e => .inl e)) hto, ⟨g1.up.calm (g1.off hf1.calm.2.1), g1.loose, g2, by rw [g1.size]; exact hf1.size⟩, g3⟩
      · exact absurd hf1.calm.2.1 g1.on
    have HLAST := Lib.hid hlast
    clear hf1 hI1 hS1 hu1 hlast
    by_cases hlt : k < xs.length
    · obtain ⟨x, hx⟩ : ∃ x, xs[k]? = some x := ⟨_, List.getElem?_eq_getElem hlt⟩
      obtain ⟨hrd, g, o, rfl, q0, q1, q2, q3⟩ := (HX.out wr HU1.out).at hx
      unfold Ac.kv at q3
      have HXM := Lib.hid (List.mem_of_getElem? hx)
      clear hx hrd
      by_cases hk20' : k = 5
      · have hbq : ((k : Int) == 5) = true := by rw [hk20']; rfl
        clear hk20'
        go_wp2_with (go_at_call 22; refine (HLAST.out _ ((Upd.refl NoS wr).alloc _)).mono ?_; rintro e w' ⟨p, D', rfl, hp, hto, hfd, hcl⟩; have HTO := Lib.hid (And.intro hp (And.intro hto (And.intro hfd hcl))); clear hp hto hfd hcl)
        go_ret
        exact ⟨p, D', rfl, HTO.out⟩
      · have hk19 : (k : Int) < 5 := by omega
        have hk19n : (k : Int) ≠ 5 := by omega
        clear hk20'
        go_wp2_with (first
          | (go_at_call 31; refine halted ?_))
        unfold Halted
        rw [wrap_mod x.n 14 (by decide) (by decide)]
        obtain ⟨r, hr⟩ : ∃ r, r = x.n % 18446744073709551616 % 14 := ⟨_, rfl⟩
        have hr0 : 0 ≤ r := by omega
        have hr1 : r < 14 := by omega
        rw [← hr]
        clear hr
        refine calls_name ?_
        intro W5 hW5
        obtain ⟨B, hB⟩ : ∃ B, B = wr.heap.size := ⟨_, rfl⟩
        have hu5 : Upd NoS wr W5 := by rw [hW5]; exact (Upd.refl NoS wr).alloc _
        have hA5 : W5.heap[B]? = some (.cells #[.int .i64 x.kind, .int .i64 x.n, .int .u8 (x.fill.toNat : Int), .slice x.ka x.keep.length x.kc] 33 (0, 0)) := by rw [hW5, hB]; exact heap_new _ _
        rw [← hB]
        have hSB : ∀ j, S1 j → j < B := fun j hj => by rw [hB]; exact HI1.out.lt j hj
        have HBW := Lib.hid hB
        clear hW5 hB
        obtain ⟨ea, hup, hlo, hho, hsz⟩ := HF1.out.set r
        refine (dskArm W5 d D1 S1 (HI1.out.updNo hu5) r (by omega) (by omega)).mono ?_
        rintro e6 w6 ⟨rfl, hto6⟩
        rw [ea] at hto6 ⊢
        obtain ⟨S6, hI6, hS6, hu6, _⟩ := hto6
        have hA6 := hu6.heap hA5 (fun e => Nat.lt_irrefl _ (hSB B e))
        have hS6' : ∀ j, S6 j → S1 j ∨ B < j := fun j hj => (hS6 j hj).imp id (fun e => by have h1 := e.1; have h2 := lt_of_heap hA5; omega)
        have HA6 := Lib.hid hA6
        have HI6 := Lib.hid hI6
        have HS6 := Lib.hid hS6'
        have HU56 := Lib.hid ((hu5.of_no (T := S1)).tr hu6)
        clear hA5 hu5 hI6 hS6 hS6' hu6 hA6 q0 q1 q2 q3
        go_wp2_with (first
          | (go_at_call 22; refine halted ?_))
        unfold Halted
        have HF1' := Lib.hid HF1.out
        refine (walOpen w6 d (D1.set r) S6 HI6.out (by rw [hlo]; simp)).mono ?_
        intro e7 w7 hpost
        have hop := opens_up hup (by rw [hho]; exact HF1.out.torn) HL.out HB.out hlo (by rw [hsz]; exact HF1.out.size)
        rcases hop with ⟨D', eo, g1, g2, g3⟩ | ⟨D', eo, g1⟩
        · rw [eo] at hpost
          obtain ⟨p, hp, rfl, hto7⟩ := hpost
          obtain ⟨S7, hW7, hS7, hu7⟩ := hto7
          have HW7 := Lib.hid hW7
          have HS7 := Lib.hid hS7
          have HU7 := Lib.hid hu7
          have HP7 := Lib.hid hp
          have HG1 := Lib.hid g1
          have HG2 := Lib.hid g2
          have HG3 := Lib.hid g3
          clear hW7 hS7 hu7 hp g1 g2 g3 eo ea hup hlo hho hsz
          go_wp2_with (first
            | (go_at_call 31; refine halted ?_))
          unfold Halted
          have hfd : Finds (D'.set (-1)) L := ⟨⟨HG1.out.up.1, rfl, HG1.out.up.2⟩, HG1.out.loose, HG2.out, by show 2 * L.n + 2 ≤ D'.size; rw [HG1.out.size]; exact HF1.out.size⟩
          have ea2 : D'.arm (-1) = (0, D'.set (-1)) := by unfold Dk.arm; rw [if_neg (by rw [HG1.out.up.1]; decide)]
          have hcl2 : Clean (D'.set (-1)).holds L := HG3.out
          refine (dskArm w7 d D' S7 HW7.out.disk (-1) (by decide) (by decide)).mono ?_
          rintro e8 w8 ⟨rfl, hto8⟩
          rw [ea2] at hto8 ⊢
          have hto := HW7.out.dsk hto8
          have hS67 : ∀ j, S7 j → S j ∨ w.heap.size ≤ j := fun j hj => by
            have h1 := HU1.out.size
            have h2 := HBW.out
            rcases HS7.out j hj with h | h
            · rcases HS6.out j h with h | h
              · exact HS1.out j h
              · exact .inr (by omega)
            · have := HU56.out.size; exact .inr (by omega)
          have huw7 : Upd (fun j => S j ∨ j = p) w w7 := by
            have e1 : Upd S w w6 := HU1.out.trans HU56.out (fun j hj e => (HS1.out j e).elim id (fun h => absurd hj (by omega)))
            refine (e1.mono (fun j _ e => .inl e)).trans HU7.out (fun j hj e => ?_)
            rcases e with e | e
            · rcases HS6.out j e with h | h
              · rcases HS1.out j h with h | h
                · exact .inl h
                · omega
              · have h1 := HU1.out.size; have h2 := HBW.out; omega
            · exact .inr e
          have HTO := Lib.hid (And.intro (show w.heap.size ≤ p by have := HP7.out; have := HU56.out.size; have := HU1.out.size; omega) (And.intro (WalTo.tr hS67 huw7 hto) (And.intro hfd hcl2)))
          clear hto8 hto hS67 huw7 hfd hcl2 ea2
          go_wp2
          go_ret
          exact ⟨p, _, rfl, HTO.out⟩
        · rw [eo] at hpost
          obtain ⟨rfl, S7, hI7, hS7, hu7⟩ := hpost
          have hS6B : ¬ S6 B := fun e => (HS6.out B e).elim (fun h => Nat.lt_irrefl _ (hSB B h)) (fun h => Nat.lt_irrefl _ h)
          have hA7 := hu7.heap HA6.out hS6B
          have c0 := cell_at hA7 0
          have c1 := cell_at hA7 1
          have c2 := cell_at hA7 2
          have c3 := cell_at hA7 3
          simp only [List.getElem?_toArray, List.getElem?_cons_zero, List.getElem?_cons_succ] at c0 c1 c2 c3
          have hw7 : Upd S w w7 := by
            refine (HU1.out.trans HU56.out (fun j hj e => (HS1.out j e).elim id (fun h => absurd hj (by omega)))).trans hu7 (fun j hj e => ?_)
            rcases HS6.out j e with h | h
            · exact (HS1.out j h).elim id (fun h => absurd hj (by omega))
            · have h1 := HU1.out.size; have h2 := HBW.out; omega
          have hrd7 := ((HX.out w7 hw7).2 x HXM.out)
          have HI7 := Lib.hid hI7
          have HS7 := Lib.hid hS7
          have HU7 := Lib.hid hu7
          have HW7 := Lib.hid hw7
          have HG1 := Lib.hid g1
          have HRD7 := Lib.hid hrd7
          have HL9 : Hid (D'.loose.length ≤ 900000000) := Lib.hid (by have h1 := opens_few HI6.out.ok; rw [eo, hlo] at h1; simp at h1; omega)
          clear hI7 hS7 hu7 hA7 hw7 g1 eo hrd7
          go_wp2_with (first
            | (go_at_call 36; refine halted ?_))
          unfold Halted
          refine (actKept w7 x HRD7.out).mono ?_
          rintro e8 w8 ⟨a8, c8, rfl, hown8, hu8⟩
          have hge8 := own_ge hown8
          obtain ⟨ks, hks⟩ : ∃ ks, ks = x.keep.take 100 := ⟨_, rfl⟩
          rw [← hks] at hown8 hge8 ⊢
          obtain ⟨M, hM⟩ : ∃ M, M = ks.length := ⟨_, rfl⟩
          rw [← hM] at hown8 hge8 ⊢
          clear hks hM
          have HO8 := Lib.hid hown8
          have HU8 := Lib.hid hu8
          have HGE := Lib.hid hge8
          clear hown8 hu8 c0 c1 c2 c3 hge8
          go_wp2_with (first
            | (go_at_call 35; refine halted ?_))
          unfold Halted
          have hk9 : ∀ W, Upd S7 w8 W → Sle W 1 (.slice a8 M c8) (ks.map fun b => [.bool b]) := fun W hu => by
            have h1 := own_upd HO8.out hu (fun j hj e => by have h1 := HGE.out j hj; have h2 := HI7.out.lt j e; omega)
            exact own_sle h1
          refine (dskCrash w8 d D' S7 (HI7.out.updNo HU8.out) (.slice a8 M c8) ks hk9 HL9.out).mono ?_
          rintro e9 w9 ⟨rfl, S9, hI9, hS9, hu9, _⟩
          have hfd := HG1.out.finds HL.out hlo (by rw [hho]; exact HF1.out.torn) (by rw [hsz]; exact HF1.out.size) (keepB ks)
          have hS79 : ∀ j, S7 j → S j ∨ w.heap.size ≤ j := fun j hj => by
            have h1 := HU1.out.size
            have h2 := HBW.out
            rcases HS7.out j hj with h | h
            · rcases HS6.out j h with h | h
              · exact HS1.out j h
              · exact .inr (by omega)
            · have := HU56.out.size; exact .inr (by omega)
          have hS9' : ∀ j, S9 j → S j ∨ w.heap.size ≤ j := fun j hj => (hS9 j hj).elim (hS79 j) (fun e => .inr (by have h1 := e.1; have h2 := HU8.out.size; have h3 := HW7.out.size; omega))
          have hw9 : Upd S w w9 := (HW7.out.trNo HU8.out).trans hu9 (fun j hj e => (hS79 j e).elim id (fun h => absurd hj (by omega)))
          have HEND : Hid (FndI w d S L w9) := Lib.hid ⟨_, S9, hfd, hI9, hS9', hw9⟩
          clear hfd hI9 hS9 hu9 hS79 hS9' hw9 ea hup hlo hho hsz hk9
          go_wp2
          exact ⟨⟨k + 1, by omega, by omega, by go_num, HEND.out⟩, by simp [intOf]; omega⟩
    · go_wp2_with (go_at_call 22; refine (HLAST.out _ (Upd.refl NoS wr)).mono ?_; rintro e w' ⟨p, D', rfl, hp, hto, hfd, hcl⟩; have HTO := Lib.hid (And.intro hp (And.intro hto (And.intro hfd hcl))); clear hp hto hfd hcl)
      go_ret
      exact ⟨p, D', rfl, HTO.out⟩
end Go.Proofs.Ytomgdfoahfhijaa
