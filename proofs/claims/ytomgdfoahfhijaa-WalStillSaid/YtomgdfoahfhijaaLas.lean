/- Wherever the power goes: what was told last is found, or what was under way (safehouselaw04.WalLasts): the walk. -/
import Derived.Test.YtomgdfoahfhijaaFnd
import Derived.Test.YtomgdfoahfhijaaRow
set_option linter.unusedVariables false
set_option linter.unusedSimpArgs false
namespace Go.Proofs.Ytomgdfoahfhijaa
open Go.RowKit

def nextL (L : Wl) (k n : Int) (f : UInt8) : Wl := if k % 8 = 3 then anewL L (actBytes n f) else moreL L (actBytes n f)
theorem nextL_said (L : Wl) (k n : Int) (f : UInt8) : (nextL L k n f).said = behindOf L.said k n f := by
  unfold nextL behindOf
  split <;> rfl
theorem nextL_whole {L : Wl} (h : L.broken = false) (k n : Int) (f : UInt8) : (nextL L k n f).broken = false := by
  unfold nextL
  split
  · rfl
  · exact h
theorem nextL_n (L : Wl) (k n : Int) (f : UInt8) : (nextL L k n f).n = L.n := by
  unfold nextL
  split <;> rfl
theorem take_up {D : Dk} {L : Wl} (h : D.Up) (hg : Good D.holds L) (hL : L.Ok) (hb : L.broken = false) (hl : D.loose = []) (hs : 2 * L.n + 2 ≤ D.size) (k n : Int) (f : UInt8) : TakesTo D L (nextL L k n f) (L.take D k n f) := by
  unfold nextL Wl.take
  split
  · exact check_up h hg hL hb hl hs _
  · exact append_up h hg hL hb hl hs _
theorem leaves_few (t m n : Int) {x : List UInt8} (h : x.length ≤ 40001) : ((leavesOf t m n x).map Subtype.val).length ≤ 1000 := by
  rw [List.length_map, length_leavesOf]
  split <;> omega
theorem take_few (D : Dk) (L : Wl) (k n : Int) (f : UInt8) : (L.take D k n f).2.1.loose.length ≤ D.loose.length + 2000 := by
  have hl : (actBytes n f).length ≤ 40001 := by rw [length_actBytes]; exact cntOf_le n
  unfold Wl.take
  split
  · unfold Wl.check
    have hb : (D.begin L.n (L.turn + 1) (actBytes n f)).2.loose.length ≤ D.loose.length + 2000 := by
      have h1 := Dk.lays_loose ((leavesOf (L.turn + 1) 0 (actBytes n f).length (actBytes n f)).map Subtype.val) D (fromOf L.n (L.turn + 1))
      have h2 := leaves_few (L.turn + 1) 0 (actBytes n f).length hl
      unfold Dk.begin
      split
      · have h3 := Dk.lays_loose [titleOf (L.turn + 1) L.n] (D.step1 L.n (L.turn + 1) (actBytes n f)).2 ((L.turn + 1) % 2)
        have h4 : (D.step1 L.n (L.turn + 1) (actBytes n f)).2.loose.length ≤ D.loose.length + 1000 := by
          show (D.lays (fromOf L.n (L.turn + 1)) ((leavesOf (L.turn + 1) 0 (actBytes n f).length (actBytes n f)).map Subtype.val)).2.loose.length ≤ _
          omega
        rw [List.length_singleton] at h3
        show ((D.step1 L.n (L.turn + 1) (actBytes n f)).2.lays ((L.turn + 1) % 2) [titleOf (L.turn + 1) L.n]).2.loose.length ≤ _
        omega
      · show (D.lays (fromOf L.n (L.turn + 1)) ((leavesOf (L.turn + 1) 0 (actBytes n f).length (actBytes n f)).map Subtype.val)).2.loose.length ≤ _
        omega
    repeat' split
    · show D.loose.length ≤ _; omega
    · show D.loose.length ≤ _; omega
    · exact hb
    · exact hb
  · unfold Wl.append
    have h1 := Dk.lays_loose ((leavesOf L.turn L.said.length (actBytes n f).length (actBytes n f)).map Subtype.val) D (fromOf L.n L.turn + L.fin)
    have h2 := leaves_few L.turn L.said.length (actBytes n f).length hl
    repeat' split
    · show D.loose.length ≤ _; omega
    · show D.loose.length ≤ _; omega
    · show (D.lays _ _).2.loose.length ≤ _; omega
    · show (D.lays _ _).2.loose.length ≤ _; omega
/-- The disk of a log that is found takes one more entry, or refuses it. -/
theorem found_more {D : Dk} {L : Wl} (hf : Finds D L) (hc : Clean D.holds L) (hL : L.Ok) (hb : L.broken = false) (b : List UInt8) (g : Nat → Bool) :
    (∃ c, (c = 3 ∨ c = 6) ∧ L.append D b = (c, D, L) ∧ Finds (D.crash g) L) ∨ (∃ D', L.append D b = (0, D', moreL L b) ∧ D'.loose = [] ∧ Finds (D'.crash g) (moreL L b) ∧ (moreL L b).Ok) := by
  rcases append_up hf.calm.up (Good.rest hf.torn.1 hL hc) hL hb hf.loose hf.size b with ⟨c, h1, e⟩ | ⟨D', e, k1, k2, k3⟩ | ⟨D', e, _, _, k4, _⟩
  · exact .inl ⟨c, h1, e, Dk.crash_calm _ _, rfl, by rw [show (D.crash g).holds = D.holds from funext (crash_quiet hf.loose _)]; exact hf.torn, by rw [crash_size]; exact hf.size⟩
  · refine .inr ⟨D', e, k1.loose, ⟨Dk.crash_calm _ _, rfl, by rw [show (D'.crash g).holds = D'.holds from funext (crash_quiet k1.loose _)]; exact k2.torn k3, ?_⟩, k3⟩
    rw [crash_size, k1.size]; exact hf.size
  · exact absurd hf.calm.2.1 k4
/-- What lived keeps: a calm log on a disk that says just that. -/
def LastR (n0 : Int) (j : Nat) (D : Dk) (L : Wl) : Prop := j ≤ 14 ∧ Calmly D L ∧ L.turn ≤ (j : Int) ∧ Good D.holds L ∧ L.n = n0
theorem lastR_step (n0 : Int) (j : Nat) (D : Dk) (L : Wl) (k n : Int) (f : UInt8) (h : LastR n0 j D L) (hj : j < 14) : LastR n0 (j + 1) (L.take D k n f).2.1 (L.take D k n f).2.2 := by
  obtain ⟨h1, h2, h3, h4, h5⟩ := h
  obtain ⟨g1, g2, g3⟩ := take_calmly h2 (k := k) (n := n) (f := f) (by omega)
  refine ⟨by omega, g1, by omega, ?_, by rw [g3]; exact h5⟩
  rcases take_up h2.calm.up h4 h2.ok h2.whole h2.loose (by rw [h2.size]; omega) k n f with ⟨c, _, e⟩ | ⟨D', e, _, k2, _⟩ | ⟨D', _, _, _, k4, _⟩
  · rw [e]; exact h4
  · rw [e]; exact k2
  · exact absurd h2.calm.2.1 k4
/-- The blocks of a log, and all that is new: whatever else lies there stays. -/
def Later (w W : World) (S : Nat → Prop) (p : Nat) : Prop := Upd (fun k => (S k ∨ k = p) ∨ w.heap.size ≤ k) w W
theorem Later.by {w W W' : World} {S T : Nat → Prop} {p : Nat} (h : Later w W S p) (hu : Upd T W W') (hT : ∀ k, T k → (S k ∨ k = p) ∨ w.heap.size ≤ k) : Later w W' S p :=
  h.trans hu (fun k _ e => hT k e)
theorem Later.no {w W W' : World} {S : Nat → Prop} {p : Nat} (h : Later w W S p) (hu : Upd NoS W W') : Later w W' S p := h.trNo hu
theorem Acc.later {w W : World} {S : Nat → Prop} {p : Nat} {v : Value} {l : List (List UInt8)} (h : Acc w v l (fun k => ¬ (S k ∨ k = p))) (hl : Later w W S p) : Acc W v l (fun k => ¬ (S k ∨ k = p)) :=
  h.upd hl (fun k hk a e => e.elim a (fun e => by omega))
theorem said_few {L : Wl} (h : L.Ok) : L.said.length ≤ 100000 := by
  have h1 := h.s1; have h2 := h.f1; have h3 := h.n1
  omega
/-- The power goes, and nothing that waits is kept. -/
theorem crashNil (w : World) (d : Nat) (D : Dk) (S : Nat → Prop) (h : IsDisk w d D S) (hl : D.loose = []) :
    Calls Try.prog 35 #[.pointer (some ⟨d, 0, none⟩), .slice none 0 0] w fun e w' => e = .returned (.int .i64 0) ∧ DskTo w w' d (D.crash (keepB [])) S := by
  refine dskCrash w d D S h _ [] (fun W _ => ⟨none, 0, rfl, Nat.le_refl _, by unfold maxLen; omega, ⟨fun _ => rfl, fun l hl => by simp at hl⟩, fun h => by simp at h⟩) (by rw [hl]; simp)
/-- What is found is found: a disk that stays awake opens with it. -/
theorem openFinds (w : World) (d : Nat) (D : Dk) (S : Nat → Prop) (h : IsDisk w d D S) (L : Wl) (hf : Finds D L) (hL : L.Ok) (hb : L.broken = false) :
    Calls Try.prog 22 #[.pointer (some ⟨d, 0, none⟩)] w fun e w' => ∃ p D', e = .returned (.tuple #[.pointer (some ⟨p, 0, none⟩), .int .i64 0]) ∧ w.heap.size ≤ p ∧ WalTo w w' p d D' L S ∧ Finds D' L ∧ Clean D'.holds L := by
  rcases opens_up hf.calm.up hf.torn hL hb hf.loose hf.size with ⟨D', e, g1, g2, g3⟩ | ⟨D', e, g1⟩
  · refine (walOpen w d D S h (by rw [hf.loose]; simp)).mono ?_
    intro e1 w1 hpost
    rw [e] at hpost
    obtain ⟨p, hp, rfl, hto⟩ := hpost
    exact ⟨p, D', rfl, hp, hto, ⟨g1.up.calm (g1.off hf.calm.2.1), g1.loose, g2, by rw [g1.size]; exact hf.size⟩, g3⟩
  · exact absurd hf.calm.2.1 g1.on
set_option maxRecDepth 100000 in
set_option maxHeartbeats 4000000 in
theorem walLastsIs (w : World) (v1 v3 : Value) (xs zs : List Ac) (hxs : IsActs w v1 xs) (hzs : IsActs w v3 zs) (y : Ac) (hy : y.Reads w) : Calls Try.prog 7 #[v1, y.val, v3] w fun e w' => e = .returned (.bool true) ∧ Upd NoS w w' := by
  have HX := Lib.hid hxs
  have HZ := Lib.hid hzs
  have HY := Lib.hid hy
  obtain ⟨av, cv, rfl, hlc, hcm⟩ := hxs.shape
  obtain ⟨av3, cv3, rfl, hlc3, hcm3⟩ := hzs.shape
  unfold maxLen at hcm hcm3
  unfold Ac.val Ac.kv actV
  obtain ⟨yk, yn, yf, ykl, yka, ykc⟩ := y
  simp only
  clear hxs hzs hy
  go_enter Try.func7, Try.ntmps7
  go_wp2_with (go_at_call 9; refine halted ?_)
  unfold Halted
  refine calls_name ?_
  intro W1 hW1
  obtain ⟨B, hB⟩ : ∃ B, B = w.heap.size := ⟨_, rfl⟩
  have hu1 : Upd NoS w W1 := by rw [hW1]; exact (Upd.refl NoS w).alloc _
  have hb0 : W1.heap[B]? = some (.cells #[.int .i64 yk, .int .i64 yn, .int .u8 (yf.toNat : Int), .slice yka ykl.length ykc] 33 (0, 0)) := by rw [hW1, hB]; exact heap_new _ _
  rw [← hB]
  clear hW1
  refine (wakesIs W1).mono ?_
  rintro e2 w2 ⟨rfl, hu2⟩
  have HU2 := Lib.hid (hu1.tr hu2)
  have HB2 := Lib.hid (hu2.heap hb0 id)
  have HBW := Lib.hid hB
  clear hB hu1 hu2 hb0
  go_wp2_with (go_at_call 13; refine halted ?_)
  unfold Halted
  refine (lawFresh w2 9 (by decide) (by decide)).mono ?_
  rintro e3 w3 ⟨p, d, rfl, S0, hI3, hS3, hp3, hu3⟩
  have HI3 := Lib.hid hI3
  have HS3 := Lib.hid hS3
  have HU3 := Lib.hid hu3
  clear hI3 hS3 hu3
  go_wp2_with (go_at_call 29; refine halted ?_)
  unfold Halted
  refine (livedIs w3 p d _ S0 _ HI3.out _ xs (fun W hu => HX.out.upd ((HU2.out.tr HU3.out).trans hu (fun j hj e => by
    have h1 := HU2.out.size
    rcases e with e | e
    · have := HS3.out j e; omega
    · omega))) (LastR 9) ⟨by omega, freshCalmly (by decide) (by decide), by show (0 : Int) ≤ ((0 : Nat) : Int); omega, format_good (by decide) (by decide), rfl⟩ (fun j D L h => ⟨h.2.1, h.2.2.1⟩) (fun j D L k n f h hj _ _ => lastR_step 9 j D L k n f h hj)).mono ?_
  rintro e5 w5 ⟨v5, rfl, j5, D5, L5, S5, hR5, hI5, hS5, hu5, hacc5⟩
  obtain ⟨a5, c5, rfl, hl5, _, _⟩ := hacc5.shape
  have hlt3 := HI3.out.disk.lt
  have hp3l := HI3.out.ltp
  have hB2l := lt_of_heap HB2.out
  have hold : ∀ j, j < w2.heap.size → ¬ (S0 j ∨ j = p) := fun j hj e => by
    rcases e with e | e
    · have := HS3.out j e; omega
    · omega
  have hb5 := hu5.heap (HU3.out.heap HB2.out id) (hold B hB2l)
  have hS52 : ∀ j, S5 j → w2.heap.size ≤ j := fun j hj => by
    rcases hS5 j hj with h | h
    · exact HS3.out j h
    · have := HU3.out.size; omega
  have huw5 : Upd NoS w w5 := (HU2.out.tr HU3.out).trans hu5 (fun j hj e => hold j (by have := HU2.out.size; omega) e)
  have q1 := cell_at hb5 1
  simp only [List.getElem?_toArray, List.getElem?_cons_zero, List.getElem?_cons_succ] at q1
  have HR5 := Lib.hid hR5
  have HI5 := Lib.hid hI5
  have HS52 := Lib.hid hS52
  have HB5 := Lib.hid hb5
  have HUW5 := Lib.hid huw5
  have HACC5 := Lib.hid hacc5
  clear hR5 hI5 hS5 hu5 hacc5 hb5 hS52 huw5 hold hlt3
  go_wp2_with (go_at_call 31; refine halted ?_)
  unfold Halted
  rw [wrap_mod yn 27 (by decide) (by decide)]
  obtain ⟨r, hr⟩ : ∃ r, r = yn % 18446744073709551616 % 27 := ⟨_, rfl⟩
  have hr0 : 0 ≤ r := by omega
  have hr1 : r < 27 := by omega
  rw [← hr]
  clear hr
  have hcal5 := HR5.out.2.1
  have hgood5 := HR5.out.2.2.2.1
  have ea : D5.arm r = (0, D5.set r) := by unfold Dk.arm; rw [if_neg (by rw [hcal5.calm.1]; decide)]
  refine (dskArm w5 d D5 S5 HI5.out.disk r (by omega) (by omega)).mono ?_
  rintro e6 w6 ⟨rfl, hto6⟩
  rw [ea] at hto6 ⊢
  obtain ⟨S6, hW6, hS6, hu6⟩ := HI5.out.dsk hto6
  have hu6' : Upd S5 w5 w6 := hto6.choose_spec.2.2.1
  have hnB5 : ¬ S5 B := fun e => by have := HS52.out B e; omega
  have hb6 := hu6'.heap HB5.out hnB5
  have hS62 : ∀ j, S6 j → w2.heap.size ≤ j := fun j hj => by
    rcases hS6 j hj with h | h
    · exact HS52.out j h
    · have := HUW5.out.size; have h1 := HI5.out.ltp; omega
  have huw6 : Upd NoS w w6 := HUW5.out.trans hu6' (fun j hj e => by have := HS52.out j e; have := HU2.out.size; omega)
  have hacc6 : Acc w6 (.slice a5 L5.said.length c5) L5.said (fun j => ¬ (S6 j ∨ j = p)) := by
    have h1 := HACC5.out.mono (T' := fun j => ¬ (S5 j ∨ j = p) ∧ j < w5.heap.size) (fun j hj h => ⟨fun e => e.elim h.2 (fun e => by have := h.1; omega), hj⟩)
    refine (h1.upd hu6' (fun j _ h e => h.1 (.inl e))).mono (fun j _ h e => ?_)
    rcases e with e | e
    · rcases hS6 j e with h2 | h2
      · exact h.1 (.inl h2)
      · have := h.2; omega
    · exact h.1 (.inr e)
  have HW6 := Lib.hid hW6
  have HB6 := Lib.hid hb6
  have HS62 := Lib.hid hS62
  have HUW6 := Lib.hid huw6
  have HACC6 := Lib.hid hacc6
  have c0 := cell_at hb6 0
  have c1 := cell_at hb6 1
  have c2 := cell_at hb6 2
  have c3 := cell_at hb6 3
  simp only [List.getElem?_toArray, List.getElem?_cons_zero, List.getElem?_cons_succ] at c0 c1 c2 c3
  clear hW6 hS6 hu6 hu6' hb6 hS62 huw6 hacc6 hto6 ea q1 hnB5 hcal5 hgood5
  go_wp2_with (go_at_call 14; refine halted ?_)
  unfold Halted
  refine (actTaking _ yk yn yf yka ykl.length ykc).mono ?_
  rintro e7 w7 ⟨rfl, hu7⟩
  obtain ⟨kk, hkk⟩ : ∃ kk, kk = yk % 4 := ⟨_, rfl⟩
  obtain ⟨nn, hnn⟩ : ∃ nn, nn = takN yn := ⟨_, rfl⟩
  rw [← hkk, ← hnn]
  have hb7 := hu7.heap HB6.out id
  have d0 := cell_at hb7 0
  have d1 := cell_at hb7 1
  have d2 := cell_at hb7 2
  have d3 := cell_at hb7 3
  have f0 := free_at hb7 0
  have f1 := free_at hb7 1
  have f2 := free_at hb7 2
  have f3 := free_at hb7 3
  simp only [List.getElem?_toArray, List.getElem?_cons_zero, List.getElem?_cons_succ] at d0 d1 d2 d3
  have HB7 := Lib.hid hb7
  have HU7 := Lib.hid hu7
  clear hb7 hu7 c0 c1 c2 c3 hkk hnn
  unfold actV
  go_wp2_with (go_at_call 32; refine halted ?_)
  unfold Halted
  refine calls_name ?_
  intro W8 hW8
  have hb8 : W8.heap[B]? = some (.cells #[.int .i64 kk, .int .i64 nn, .int .u8 (yf.toNat : Int), .slice yka ykl.length ykc] 33 (0, 0)) := by
    rw [hW8]
    exact heap_set (heap_set (heap_set (heap_set HB7.out 0 _) 1 _) 2 _) 3 _
  have hu8 : Upd (OneS B) w7 W8 := by
    rw [hW8]
    exact ((((Upd.refl (OneS B) w7).setCell ⟨B, 0, none⟩ _ (fun _ => rfl)).setCell ⟨B, 1, none⟩ _ (fun _ => rfl)).setCell ⟨B, 2, none⟩ _ (fun _ => rfl)).setCell ⟨B, 3, none⟩ _ (fun _ => rfl)
  clear hW8 d0 d1 d2 d3 f0 f1 f2 f3
  have hnB : ¬ S6 B ∧ B ≠ p := ⟨fun e => by have := HS62.out B e; omega, by omega⟩
  have hW8' : IsWal W8 p d (D5.set r) S6 L5 := (HW6.out.updNo HU7.out).one HB7.out (by decide) (by decide) hnB.1 hnB.2 hu8
  have hacc8 : Acc W8 (.slice a5 L5.said.length c5) L5.said (fun j => ¬ (S6 j ∨ j = p)) := (HACC6.out.updNo HU7.out).one HB7.out (by decide) (by decide) hu8
  have huw8 : Upd NoS w W8 := (HUW6.out.tr HU7.out).trans hu8 (fun j hj e => by rw [show j = B from e] at hj; have := HBW.out; omega)
  have hok5 := HR5.out.2.1.ok
  have hl0 : 0 < L5.said.length := hok5.s0
  have hl1 : L5.said.length ≤ 100000 := by have h1 := hok5.s1; have h2 := hok5.f1; have h3 := hok5.n1; omega
  refine (behindIs W8 _ _ _ hacc8 hl0 hl1 kk nn yf yka ykl.length ykc).mono ?_
  rintro e9 w9 ⟨v9, rfl, hacc9, hu9⟩
  have hacc9' : Acc w9 v9 (behindOf L5.said kk nn yf) (fun j => ¬ (S6 j ∨ j = p)) := hacc9.mono (fun j _ h => h.elim id (fun h e => by
    rcases e with e | e
    · have := hW8'.disk.lt j e; omega
    · have := hW8'.ltp; omega))
  obtain ⟨a9, c9, rfl, hl9, _, _⟩ := hacc9'.shape
  have hb9 := hu9.heap hb8 id
  have HB9 := Lib.hid hb9
  have HW9 := Lib.hid (hW8'.updNo hu9)
  have HUW9 := Lib.hid (huw8.tr hu9)
  have HA59 := Lib.hid (hacc8.updNo hu9)
  have HA99 := Lib.hid hacc9'
  have c0 := cell_at hb9 0
  have c1 := cell_at hb9 1
  have c2 := cell_at hb9 2
  have c3 := cell_at hb9 3
  simp only [List.getElem?_toArray, List.getElem?_cons_zero, List.getElem?_cons_succ] at c0 c1 c2 c3
  clear hb8 hu8 hW8' hacc8 huw8 hacc9 hu9 hacc9' hb9 hok5
  go_wp2_with (go_at_call 17; refine halted ?_)
  unfold Halted
  have hcal5 := HR5.out.2.1
  have htk := take_up (D := D5.set r) (L := L5) ⟨hcal5.calm.1, hcal5.calm.2.2⟩ HR5.out.2.2.2.1 hcal5.ok hcal5.whole hcal5.loose (by show 2 * L5.n + 2 ≤ D5.size; rw [hcal5.size]; omega) kk nn yf
  refine (walTake w9 p d (D5.set r) S6 L5 HW9.out kk nn yf yka ykl.length ykc (by show D5.loose.length ≤ 800000000; rw [hcal5.loose]; simp)).mono ?_
  rintro e10 w10 ⟨rfl, ⟨S10, hW10, hS10, hu10⟩, _⟩
  have hla10 : Later w9 w10 S6 p := hu10.mono (fun k _ e => .inl e)
  have hnB9 : ∀ j, j < w2.heap.size → ¬ ((S6 j ∨ j = p) ∨ w9.heap.size ≤ j) := fun j hj e => by
    rcases e with (e | e) | e
    · have := HS62.out j e; omega
    · omega
    · have h1 := HUW9.out.size; have h2 := lt_of_heap HB9.out
      have h3 := HW9.out.ltp
      omega
  obtain ⟨ks, hks⟩ : ∃ ks, ks = ykl.take 100 := ⟨_, rfl⟩
  have hsz5 : 2 * L5.n + 2 ≤ (D5.set r).size := by show 2 * L5.n + 2 ≤ D5.size; rw [hcal5.size]; omega
  have hgd5 : Good (D5.set r).holds L5 := HR5.out.2.2.2.1
  have hnx := nextL_said L5 kk nn yf
  have hnw := nextL_whole hcal5.whole kk nn yf
  have hnn2 := nextL_n L5 kk nn yf
  have hE5 : eqLL L5.said L5.said = true := (eqLL_iff _ _).2 rfl
  have hEn : eqLL (nextL L5 kk nn yf).said (behindOf L5.said kk nn yf) = true := (eqLL_iff _ _).2 hnx
  have c0 := cell_at (hla10.heap HB9.out (hnB9 B hB2l)) 0
  have c1 := cell_at (hla10.heap HB9.out (hnB9 B hB2l)) 1
  have c2 := cell_at (hla10.heap HB9.out (hnB9 B hB2l)) 2
  have c3 := cell_at (hla10.heap HB9.out (hnB9 B hB2l)) 3
  simp only [List.getElem?_toArray, List.getElem?_cons_zero, List.getElem?_cons_succ] at c0 c1 c2 c3
  have HLA10 := Lib.hid hla10
  have HNB9 := Lib.hid hnB9
  have HS10 := Lib.hid hS10
  have HU10 := Lib.hid hu10
  have HKS := Lib.hid hks
  have HCAL5 := Lib.hid hcal5
  have hok5 := hcal5.ok
  have hwh5 := hcal5.whole
  have hlo5 : (D5.set r).loose = [] := hcal5.loose
  clear hla10 hnB9 hS10 hu10 hcal5
  have hfew := take_few (D5.set r) L5 kk nn yf
  rw [hlo5] at hfew
  have HNEXT := HA99
  rcases htk with ⟨c, hc, e⟩ | ⟨D', e, hlay, hgd, hokn⟩ | ⟨D', e, hdown, hsz, hon, hcr⟩
  case' inl =>
    have HFD : Hid (Finds ((D5.set r).crash (keepB ks)) L5 ∧ L5.Ok ∧ L5.broken = false) := Lib.hid ⟨⟨Dk.crash_calm _ _, rfl, by rw [show ((D5.set r).crash (keepB ks)).holds = (D5.set r).holds from funext (crash_quiet hlo5 _)]; exact hgd5.torn hok5, by rw [crash_size]; exact hsz5⟩, hok5, hwh5⟩
    have hc0 : (c == 0) = false := by rcases hc with rfl | rfl <;> rfl
    have HNOW := HA59
    rw [e] at hW10 hfew ⊢
    clear e hc hnx hnw hnn2 hEn
  case' inr.inl =>
    have HFD : Hid (Finds (D'.crash (keepB ks)) (nextL L5 kk nn yf) ∧ (nextL L5 kk nn yf).Ok ∧ (nextL L5 kk nn yf).broken = false) := Lib.hid ⟨⟨Dk.crash_calm _ _, rfl, by rw [show (D'.crash (keepB ks)).holds = D'.holds from funext (crash_quiet hlay.loose _)]; exact hgd.torn hokn, by rw [crash_size, hlay.size, hnn2]; exact hsz5⟩, hokn, hnw⟩
    have HNOW := HA99
    rw [e] at hW10 hfew ⊢
    clear e hlay hgd hokn hnx hnw hnn2 hE5
  case' inr.inr =>
    rcases hcr (keepB ks) with ht | ⟨ht, hokn⟩
    case' inl =>
      have HFD : Hid (Finds (D'.crash (keepB ks)) L5 ∧ L5.Ok ∧ L5.broken = false) := Lib.hid ⟨⟨Dk.crash_calm _ _, rfl, ht, by rw [crash_size, hsz]; exact hsz5⟩, hok5, hwh5⟩
      have HNOW := HA59
      rw [e] at hW10 hfew ⊢
      clear e hdown hsz hon hcr ht hnx hnw hnn2 hEn
    case' inr =>
      have HFD : Hid (Finds (D'.crash (keepB ks)) (nextL L5 kk nn yf) ∧ (nextL L5 kk nn yf).Ok ∧ (nextL L5 kk nn yf).broken = false) := Lib.hid ⟨⟨Dk.crash_calm _ _, rfl, ht.torn hokn, by rw [crash_size, hsz, hnn2]; exact hsz5⟩, hokn, hnw⟩
      have HNOW := HA59
      have hor : eqLL (nextL L5 kk nn yf).said L5.said = true ∨ eqLL (nextL L5 kk nn yf).said L5.said = false := by cases eqLL (nextL L5 kk nn yf).said L5.said <;> simp
      rw [e] at hW10 hfew ⊢
      clear e hdown hsz hon hcr ht hokn hnx hnw hnn2
      rcases hor with hor | hor
  all_goals
    have HW10 := Lib.hid hW10
    have HFEW := Lib.hid hfew
    clear hW10 hfew hgd5 hsz5 hok5 hwh5 hlo5
    go_wp2_with (first
      | (go_at_call 34; refine (accountIs w10 p d _ S10 _ HW10.out).mono ?_; rintro e11 w11 ⟨v11, rfl, hacc11, hu11⟩; have HACC11 := Lib.hid hacc11; have HU11 := Lib.hid hu11; clear hacc11; replace c0 := hu11.cell c0 id; replace c1 := hu11.cell c1 id; replace c2 := hu11.cell c2 id; replace c3 := hu11.cell c3 id; clear hu11)
      | (go_at_call 33; refine (lawEqual _ _ _ _ _ _ _ HACC11.out ((HA59.out.later HLA10.out).updNo HU11.out)).mono ?_; rintro e w' ⟨rfl, rfl⟩)
      | (go_at_call 36; refine halted ?_))
    unfold Halted
    refine calls_name ?_
    intro W12 hW12
    have hu12 : Upd NoS w10 W12 := by first | (rw [hW12]; exact Upd.refl _ _) | (rw [hW12]; exact HU11.out)
    clear hW12
    have hla12 : Later w9 W12 S6 p := HLA10.out.no hu12
    have hNO : ∀ W, Later w9 W S6 p → Upd NoS w W := fun W h => HUW9.out.trans h (fun j hj e => by
      have h2 := HU2.out.size
      rcases e with (e | e) | e
      · have := HS62.out j e; omega
      · omega
      · have := HUW9.out.size; omega)
    have HNO := Lib.hid hNO
    obtain ⟨M, hM⟩ : ∃ M, M = ks.length := ⟨_, rfl⟩
    have hkept : Calls Try.prog 36 #[.agg #[.int .i64 kk, .int .i64 nn, .int .u8 (yf.toNat : Int), .slice yka ykl.length ykc]] W12 fun e w' => ∃ a c, e = .returned (.slice a M c) ∧ w'.ownsRow W12.heap.size 4 1 (.slice a M c) M (bls ks) ∧ Upd NoS W12 w' := by
      rw [hM, HKS.out]
      exact actKept W12 ⟨kk, nn, yf, ykl, yka, ykc⟩ (HY.out.upd (hNO W12 hla12))
    clear hM c0 c1 c2 c3
    refine hkept.mono ?_
    rintro e13 w13 ⟨a13, c13, rfl, hown13, hu13⟩
    have hge13 := own_ge hown13
    have HOWN13 := Lib.hid hown13
    have HLA13 := Lib.hid (hla12.no hu13)
    have HU13 := Lib.hid (hu12.tr hu13)
    have HGE13 := Lib.hid hge13
    have HU12 := Lib.hid hu12
    clear hown13 hu13 hge13 hkept hla12 hNO hu12
    go_wp2_with (go_at_call 35; refine halted ?_)
    unfold Halted
    have hfp10 : ∀ j, S10 j → S6 j ∨ w9.heap.size ≤ j := HS10.out
    have hk14 : ∀ W, Upd S10 w13 W → Sle W 1 (.slice a13 M c13) (ks.map fun b => [.bool b]) := fun W hu => by
      have h1 := own_upd HOWN13.out hu (fun j hj e => by have h1 := HGE13.out j hj; have h2 := HW10.out.disk.lt j e; have h3 := HU12.out.size; omega)
      exact own_sle h1
    refine (dskCrash w13 d _ S10 (HW10.out.disk.updNo HU13.out) (.slice a13 M c13) ks hk14 (by have := HFEW.out; simp at this; omega)).mono ?_
    rintro e14 w14 ⟨rfl, S14, hI14, hS14, hu14, _⟩
    have hfp14 : ∀ j, S14 j → S6 j ∨ w9.heap.size ≤ j := fun j hj => by
      rcases hS14 j hj with h | h
      · exact hfp10 j h
      · have h1 := h.1; have h2 := HLA13.out.size; exact .inr (by omega)
    have HLA14 := Lib.hid (HLA13.out.by hu14 (fun j e => (hfp10 j e).imp .inl id))
    have HI14 := Lib.hid hI14
    have HFP14 := Lib.hid hfp14
    clear hk14 hI14 hS14 hu14 hfp14 hfp10
    go_wp2_with (go_at_call 37; refine halted ?_)
    unfold Halted
    obtain ⟨hfd14, hokF, hwhF⟩ := HFD.out
    refine (foundIs w14 d _ S14 HI14.out _ hokF hwhF hfd14 _ zs (fun W hu => HZ.out.upd (HNO.out W (HLA14.out.by hu (fun j e => (HFP14.out j e).imp .inl id))))).mono ?_
    rintro e15 w15 ⟨p15, D15, rfl, hp15, ⟨S15, hW15, hS15, hu15⟩, hfd15, hcl15⟩
    have hp15g : w9.heap.size ≤ p15 := Nat.le_trans HLA14.out.size hp15
    have hfp15 : ∀ j, S15 j → S6 j ∨ w9.heap.size ≤ j := fun j hj => by
      rcases hS15 j hj with h | h
      · exact HFP14.out j h
      · have h2 := HLA14.out.size; exact .inr (by omega)
    have hla15 : Later w9 w15 S6 p := HLA14.out.by hu15 (fun j e => e.elim (fun e => (HFP14.out j e).imp .inl id) (fun e => .inr (by omega)))
    have HW15 := Lib.hid hW15
    have HFP15 := Lib.hid hfp15
    have HLA15 := Lib.hid hla15
    have HFD15 := Lib.hid hfd15
    have HCL15 := Lib.hid hcl15
    clear hW15 hS15 hu15 hfp15 hla15 hfd15 hcl15 hp15 hfd14 hokF hwhF
    go_wp2_with (first
      | (go_at_call 34; refine halted ?_))
    unfold Halted
    refine (accountIs w15 p15 d _ S15 _ HW15.out).mono ?_
    rintro e16 w16 ⟨v16, rfl, hacc16, hu16⟩
    have HACC16 := Lib.hid hacc16
    have HU16 := Lib.hid hu16
    have HLA16 := Lib.hid (HLA15.out.no hu16)
    obtain ⟨a16, c16, rfl, _⟩ := hacc16.shape
    clear hacc16 hu16
    go_wp2_with (first
      | (go_at_call 33; ((with_reducible refine (lawEqual _ _ _ _ _ _ _ HACC16.out (HNOW.out.later HLA16.out)).mono ?_); rintro e w' ⟨rfl, rfl⟩))
      | (go_at_call 33; ((with_reducible refine (lawEqual _ _ _ _ _ _ _ HACC16.out (HNEXT.out.later HLA16.out)).mono ?_); rintro e w' ⟨rfl, rfl⟩))
      | (go_at_call 15; refine halted ?_))
    unfold Halted
    refine calls_name ?_
    intro W17 hW17
    obtain ⟨G, hG⟩ : ∃ G, G = w16.heap.size := ⟨_, rfl⟩
    have hu17 : Upd NoS w16 W17 := by rw [hW17]; exact (Upd.refl NoS w16).alloc _
    have hg17 : W17.heap[G]? = some (.cells #[.int .i64 0, .int .i64 50, .int .u8 200, .slice none 0 0] 33 (0, 0)) := by rw [hW17, hG]; exact heap_new _ _
    rw [← hG]
    clear hW17
    obtain ⟨bs, hbs⟩ : ∃ bs, bs = actBytes 50 200 := ⟨_, rfl⟩
    obtain ⟨Mb, hMb⟩ : ∃ Mb, Mb = bs.length := ⟨_, rfl⟩
    have hb4 : bs.length ≤ 40000 := by rw [hbs, length_actBytes]; decide
    have hby : Calls Try.prog 15 #[.agg #[.int .i64 0, .int .i64 50, .int .u8 200, .slice none 0 0]] W17 fun e w' => ∃ a c, e = .returned (.slice a Mb c) ∧ w'.ownsRow W17.heap.size 5 1 (.slice a Mb c) Mb (bvs bs) ∧ Upd NoS W17 w' := by
      rw [hMb, hbs]
      exact actBytesIs W17 0 50 200 none 0 0
    have HG := Lib.hid hG
    have HMB := Lib.hid hMb
    have HBS := Lib.hid hbs
    clear hG hMb hbs
    refine hby.mono ?_
    rintro e18 w18 ⟨a18, c18, rfl, hown18, hu18⟩
    have hr18 : Rd w18 5 1 (.slice a18 bs.length c18) bs.length (bvs bs) := by rw [← HMB.out]; exact Rd.of_own hown18
    have HR18 := Lib.hid hr18
    have HU18 := Lib.hid ((HU16.out.tr hu17).tr hu18)
    have HG18 := Lib.hid (hu18.heap hg17 id)
    have hlt15 := HW15.out.disk.lt
    have hlp15 := HW15.out.ltp
    have HT18 : Hid (Acc w18 (.slice a16 _ c16) _ (fun j => ¬ (S15 j ∨ j = p15) ∧ j < w18.heap.size)) := Lib.hid (((HACC16.out.updNo hu17).updNo hu18).mono (fun j hj h => ⟨fun e => by
      rcases e with e | e
      · have := hlt15 j e; omega
      · omega, hj⟩))
    have HLA18 := Lib.hid ((HLA16.out.no hu17).no hu18)
    have hG15 : ¬ (S15 G ∨ G = p15) := fun e => by
      have h1 := HG.out; have h2 := HU16.out.size
      rcases e with e | e
      · have := hlt15 G e; omega
      · omega
    clear hu17 hu18 hg17 hby hown18 hr18 hlt15
    go_wp2_with (go_at_call 24; refine halted ?_)
    unfold Halted
    obtain ⟨_, hokF, hwhF⟩ := HFD.out
    have hmo := found_more HFD15.out HCL15.out hokF hwhF bs (keepB [])
    rw [HMB.out]
    refine (walAppend w18 p15 d D15 S15 _ (HW15.out.updNo HU18.out) 5 a18 c18 bs HR18.out (by rw [HFD15.out.loose]; simp)).mono ?_
    rintro e19 w19 ⟨rfl, ⟨S19, hW19, hS19, hu19⟩, _⟩
    have hg19 := hu19.heap HG18.out hG15
    have hla19 : Later w9 w19 S6 p := HLA18.out.by hu19 (fun j e => by
      rcases e with e | e
      · exact (HFP15.out j e).imp .inl id
      · exact .inr (by omega))
    have hT19 := HT18.out.upd hu19 (fun j _ h e => h.1 e)
    have hss19 : ∀ j, S19 j → S15 j ∨ w18.heap.size ≤ j := hS19
    have hT19' : Acc w19 (.slice a16 _ c16) _ (fun j => ¬ (S19 j ∨ j = p15) ∧ j < w19.heap.size) := hT19.mono (fun j hj h => ⟨fun e => e.elim (fun e => (hss19 j e).elim (fun e => h.1 (.inl e)) (fun e => by have := h.2; omega)) (fun e => h.1 (.inr e)), hj⟩)
    have hfp19 : ∀ j, S19 j → S6 j ∨ w9.heap.size ≤ j := fun j hj => by
      rcases hss19 j hj with h | h
      · exact HFP15.out j h
      · have h2 := HLA18.out.size; exact .inr (by omega)
    have HT19 := Lib.hid hT19'
    have HFP19 := Lib.hid hfp19
    have HLA19 := Lib.hid hla19
    have HG19 := Lib.hid hg19
    have hs0 := hokF.s0
    have hs1 := said_few hokF
    clear hS19 hu19 hla19 hT19 hT19' hfp19 hss19 hg19 hG15
    rcases hmo with ⟨c19, hc19, e19, hfn⟩ | ⟨D19, e19, hl19, hfn, hokN⟩
    case' inl =>
      have hcc : (c19 == 0) = false := by rcases hc19 with rfl | rfl <;> rfl
      have HDN := Lib.hid (And.intro hfn (And.intro HFD15.out.loose (And.intro hokF hwhF)))
      have HTN := HT19
      rw [e19] at hW19 ⊢
      have HW19 := Lib.hid hW19
      clear hW19 e19 hfn hc19 hs0 hs1
      have c0 : True := trivial
      go_wp2_with (go_at_call 35; refine halted ?_)
    case' inr =>
      have HDN := Lib.hid (And.intro hfn (And.intro hl19 (And.intro hokN hwhF)))
      rw [e19] at hW19 ⊢
      have HW19 := Lib.hid hW19
      have c0 := cell_at HG19.out 0
      have c1 := cell_at HG19.out 1
      have c2 := cell_at HG19.out 2
      have c3 := cell_at HG19.out 3
      simp only [List.getElem?_toArray, List.getElem?_cons_zero, List.getElem?_cons_succ] at c0 c1 c2 c3
      clear hW19 e19 hfn
      go_wp2_with (go_at_call 32; refine halted ?_)
      unfold Halted
      have hbh := behindIs w19 _ _ _ HT19.out (by omega) hs1 0 50 200 none 0 0
      have ebh : ∀ L : Wl, behindOf L.said 0 50 200 = (moreL L bs).said := fun L => by rw [HBS.out]; rfl
      rw [ebh] at hbh
      refine hbh.mono ?_
      rintro e20 w20 ⟨v20, rfl, hacc20, hu20⟩
      have hlt19 := HW19.out.disk.lt
      have hlp19 := HW19.out.ltp
      have HTN := Lib.hid (hacc20.mono (T' := fun j => ¬ (S19 j ∨ j = p15) ∧ j < w20.heap.size) (fun j hj h => ⟨h.elim (fun h => h.1) (fun h e => by
        rcases e with e | e
        · have := hlt19 j e; omega
        · omega), hj⟩))
      obtain ⟨a20, c20, rfl, _⟩ := hacc20.shape
      replace HW19 := Lib.hid (HW19.out.updNo hu20)
      replace HLA19 := Lib.hid (HLA19.out.no hu20)
      clear c0 c1 c2 c3 hacc20 hu20 hlt19 hbh ebh hs0 hs1
      go_wp2_with (go_at_call 35; refine halted ?_)
    all_goals
      unfold Halted
      obtain ⟨hfn, hlN, hokN, hwhN⟩ := HDN.out
      refine (crashNil _ d _ S19 HW19.out.disk hlN).mono ?_
      rintro e21 w21 ⟨rfl, S21, hI21, hS21, hu21, _⟩
      have hfp21 : ∀ j, S21 j → S6 j ∨ w9.heap.size ≤ j := fun j hj => by
        rcases hS21 j hj with h | h
        · exact HFP19.out j h
        · have h1 := h.1; have h2 := HLA19.out.size; exact .inr (by omega)
      have HT21 := Lib.hid ((HTN.out.upd hu21 (fun j _ h e => h.1 (.inl e))).mono (T' := fun j => ¬ (S21 j ∨ j = p15) ∧ j < w21.heap.size) (fun j hj h => ⟨fun e => e.elim (fun e => (hS21 j e).elim (fun e => h.1 (.inl e)) (fun e => by have := e.1; have := h.2; omega)) (fun e => h.1 (.inr e)), hj⟩))
      have HFP21 := Lib.hid hfp21
      have HI21 := Lib.hid hI21
      have HLA21 := Lib.hid (HLA19.out.by hu21 (fun j e => (HFP19.out j e).imp .inl id))
      clear hI21 hS21 hu21 hfp21 hfn hlN hokN hwhN
      go_wp2_with (go_at_call 22; refine halted ?_)
      unfold Halted
      obtain ⟨hfn, hlN, hokN, hwhN⟩ := HDN.out
      refine (openFinds _ d _ S21 HI21.out _ hfn hokN (by exact hwhN)).mono ?_
      rintro e22 w22 ⟨p22, D22, rfl, hp22, ⟨S22, hW22, hS22, hu22⟩, _, _⟩
      have HT22 := Lib.hid (HT21.out.upd hu22 (fun j hj h e => e.elim (fun e => h.1 (.inl e)) (fun e => by omega)))
      have HLA22 := Lib.hid (HLA21.out.by hu22 (fun j e => e.elim (fun e => (HFP21.out j e).imp .inl id) (fun e => by have h1 := HLA21.out.size; exact .inr (by omega))))
      have HW22 := Lib.hid hW22
      clear hW22 hS22 hu22 hfn hlN hokN hwhN hp22
      go_wp2_with (go_at_call 34; refine halted ?_)
      unfold Halted
      refine (accountIs _ p22 d _ S22 _ HW22.out).mono ?_
      rintro e23 w23 ⟨v23, rfl, hacc23, hu23⟩
      obtain ⟨a23, c23, rfl, _⟩ := hacc23.shape
      have HACC23 := Lib.hid hacc23
      have HT23 := Lib.hid (HT22.out.updNo hu23)
      have HLA23 := Lib.hid (HLA22.out.no hu23)
      have hEE : ∀ l : List (List UInt8), eqLL l l = true := fun l => (eqLL_iff _ _).2 rfl
      clear hacc23 hu23
      go_wp2_with (go_at_call 33; refine (lawEqual _ _ _ _ _ _ _ HACC23.out HT23.out).mono ?_; rintro e w' ⟨rfl, rfl⟩; rw [hEE])
      go_ret
      exact ⟨rfl, HNO.out _ HLA23.out⟩
end Go.Proofs.Ytomgdfoahfhijaa
