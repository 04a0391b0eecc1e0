/- wakes. -/
import Derived.Test.YtomgdfoahfhijaaWca
import Derived.Test.YtomgdfoahfhijaaWbg
set_option linter.unusedVariables false
set_option linter.unusedSimpArgs false
namespace Go.Proofs.Ytomgdfoahfhijaa
open Go.RowKit

/-- A log stands, and nothing that is old is part of it. -/
def Own (w0 w : World) (p d : Nat) (D : Dk) (L : Wl) : Prop := ∃ S, IsWal w p d D S L ∧ (∀ j, S j → w0.heap.size ≤ j) ∧ w0.heap.size ≤ p ∧ Upd NoS w0 w
theorem Own.to {w0 w w' : World} {p d : Nat} {D D' : Dk} {L L' : Wl} {S : Nat → Prop} (h : WalTo w w' p d D' L' S) (hS : ∀ j, S j → w0.heap.size ≤ j) (hp : w0.heap.size ≤ p) (hu : Upd NoS w0 w) : Own w0 w' p d D' L' := by
  obtain ⟨S', h1, h2, h3⟩ := h
  exact ⟨S', h1, fun j hj => (h2 j hj).elim (hS j) (fun h => Nat.le_trans hu.size h), hp, hu.trans h3 (fun j hj e => (by rcases e with e | e; (· have := hS j e; omega); (· omega) : False).elim)⟩
theorem Own.no {w0 w w' : World} {p d : Nat} {D : Dk} {L : Wl} (h : Own w0 w p d D L) (hu : Upd NoS w w') : Own w0 w' p d D L := by
  obtain ⟨S, h1, h2, h3, h4⟩ := h
  exact ⟨S, h1.updNo hu, h2, h3, h4.tr hu⟩
theorem Own.append {w0 w : World} {p d : Nat} {D D' : Dk} {L L' : Wl} {code : Int} (h : Own w0 w p d D L) {b : List UInt8} (he : L.append D b = (code, D', L')) (hlo : D.loose.length ≤ 800000000) (e : Nat) (a : Option Addr) (c : Nat) (hr : Rd w e 1 (.slice a b.length c) b.length (bvs b)) :
    Calls Try.prog 24 #[.pointer (some ⟨p, 0, none⟩), .slice a b.length c] w fun e w' => e = .returned (.int .i64 code) ∧ Own w0 w' p d D' L' := by
  obtain ⟨S, h1, h2, h3, h4⟩ := h
  refine (walAppend w p d D S L h1 e a c b hr hlo).mono ?_
  rintro e w' ⟨rfl, hto, _⟩
  rw [he] at hto ⊢
  exact ⟨rfl, Own.to (D := D) (L := L) hto h2 h3 h4⟩
theorem Own.check {w0 w : World} {p d : Nat} {D D' : Dk} {L L' : Wl} {code : Int} (h : Own w0 w p d D L) {b : List UInt8} (he : L.check D b = (code, D', L')) (hlo : D.loose.length ≤ 800000000) (e : Nat) (a : Option Addr) (c : Nat) (hr : Rd w e 1 (.slice a b.length c) b.length (bvs b)) :
    Calls Try.prog 25 #[.pointer (some ⟨p, 0, none⟩), .slice a b.length c] w fun e w' => e = .returned (.int .i64 code) ∧ Own w0 w' p d D' L' := by
  obtain ⟨S, h1, h2, h3, h4⟩ := h
  refine (walCheck w p d D S L h1 e a c b hr hlo).mono ?_
  rintro e w' ⟨rfl, hto, _⟩
  rw [he] at hto ⊢
  exact ⟨rfl, Own.to (D := D) (L := L) hto h2 h3 h4⟩
theorem Own.opens {w0 w : World} {p d : Nat} {D D' : Dk} {L L' : Wl} (h : Own w0 w p d D L) (he : D.opens = (0, D', some L')) (hlo : D.loose.length ≤ 700000000) :
    Calls Try.prog 22 #[.pointer (some ⟨d, 0, none⟩)] w fun e w' => ∃ p', e = .returned (.tuple #[.pointer (some ⟨p', 0, none⟩), .int .i64 0]) ∧ Own w0 w' p' d D' L' := by
  obtain ⟨S, h1, h2, h3, h4⟩ := h
  refine (walOpen w d D S h1.disk hlo).mono ?_
  intro e w' hpost
  rw [he] at hpost
  obtain ⟨p', hp', rfl, hto⟩ := hpost
  exact ⟨p', rfl, Own.to (D := D) (L := L) hto h2 (Nat.le_trans h4.size hp') h4⟩
theorem Own.left {w0 w : World} {p d : Nat} {D : Dk} {L : Wl} (h : Own w0 w p d D L) {k : Int} (hk : L.n - L.fin = k) : Calls Try.prog 18 #[.pointer (some ⟨p, 0, none⟩)] w fun e w' => e = .returned (.int .i64 k) ∧ Own w0 w' p d D L := by
  have h' := h
  obtain ⟨S, h1, _⟩ := h'
  refine (walLeft w p d D S L h1).mono ?_
  rintro e w' ⟨rfl, hu⟩
  exact ⟨by rw [hk], h.no hu⟩
theorem Own.turn {w0 w : World} {p d : Nat} {D : Dk} {L : Wl} (h : Own w0 w p d D L) : Calls Try.prog 19 #[.pointer (some ⟨p, 0, none⟩)] w fun e w' => e = .returned (.int .u32 L.turn) ∧ Own w0 w' p d D L := by
  have h' := h
  obtain ⟨S, h1, _⟩ := h'
  refine (walTurn w p d D S L h1).mono ?_
  rintro e w' ⟨rfl, hu⟩
  exact ⟨rfl, h.no hu⟩
theorem Own.len {w0 w : World} {p d : Nat} {D : Dk} {L : Wl} (h : Own w0 w p d D L) {k : Int} (hk : (L.said.length : Int) - 1 = k) : Calls Try.prog 27 #[.pointer (some ⟨p, 0, none⟩)] w fun e w' => e = .returned (.int .i64 k) ∧ Own w0 w' p d D L := by
  have h' := h
  obtain ⟨S, h1, _⟩ := h'
  refine (walLen w p d D S L h1).mono ?_
  rintro e w' ⟨rfl, hu⟩
  exact ⟨by rw [hk], h.no hu⟩
theorem Own.snap {w0 w : World} {p d : Nat} {D : Dk} {L : Wl} (h : Own w0 w p d D L) {b : List UInt8} (hb : L.snap = b) : Calls Try.prog 26 #[.pointer (some ⟨p, 0, none⟩)] w fun e w' =>
    ∃ a c, e = .returned (.slice a b.length c) ∧ Rd w' 5 1 (.slice a b.length c) b.length (bvs b) ∧ Own w0 w' p d D L := by
  have h' := h
  obtain ⟨S, h1, _⟩ := h'
  refine (walSnap w p d D S L h1).mono ?_
  rintro e w' ⟨a, c, rfl, ho, hu⟩
  subst hb
  exact ⟨a, c, rfl, Rd.of_own ho, h.no hu⟩
/-- A disk and a log on it, made anew. -/
theorem Own.new {w0 w : World} {d : Nat} {D D' : Dk} {S : Nat → Prop} (h : IsDisk w d D S) (hS : ∀ j, S j → w0.heap.size ≤ j) (hu : Upd NoS w0 w) {n : Int} (hm : mayB D.size n = true) (hlo : D.loose.length ≤ 700000000) (he : D.format n = (0, D')) :
    Calls Try.prog 21 #[.pointer (some ⟨d, 0, none⟩), .int .i64 n] w fun e w' => ∃ p, e = .returned (.tuple #[.pointer (some ⟨p, 0, none⟩), .int .i64 0]) ∧ Own w0 w' p d D' (Wl.fresh n) := by
  refine (walFormat w d D S h n hm hlo).mono ?_
  intro e w' hpost
  rw [he] at hpost
  rcases hpost with ⟨h1, _⟩ | ⟨_, p, hp, rfl, hto⟩
  · exact absurd rfl h1
  · exact ⟨p, rfl, Own.to (D := D) (L := Wl.fresh n) hto hS (Nat.le_trans hu.size hp) hu⟩
set_option maxRecDepth 100000 in
set_option maxHeartbeats 400000 in
theorem wakesIs (w : World) : Calls Try.prog 9 #[] w fun e w' => e = .returned (.bool true) ∧ Upd NoS w w' := by
  obtain ⟨D1, D2, D3, D4, D5, e1, e2, e3, e4, e5, e6, l1, l2, l3, l4⟩ := run_wakes
  have E1 := Lib.hid e1
  have E2 := Lib.hid e2
  have E3 := Lib.hid e3
  have E4 := Lib.hid e4
  have E5 := Lib.hid e5
  have E6 := Lib.hid e6
  have hl1 : D1.loose.length ≤ 700000000 := by rw [l1]; decide
  have hl2 : D2.loose.length ≤ 700000000 := by rw [l2]; decide
  have hl3 : D3.loose.length ≤ 700000000 := by rw [l3]; decide
  have hl4 : D4.loose.length ≤ 700000000 := by rw [l4]; decide
  clear e1 e2 e3 e4 e5 e6 l1 l2 l3 l4
  go_enter Try.func9, Try.ntmps9
  go_wp2_with (go_at_call 40; refine halted ?_)
  unfold Halted
  refine (dskNew w 10 (by decide) (by decide)).mono ?_
  rintro e1 w1 ⟨rfl, hI, hu1⟩
  obtain ⟨d, hd⟩ : ∃ d, d = w.heap.size + 1 := ⟨_, rfl⟩
  have hSd : ∀ j, (j = w.heap.size + 1 ∨ j = w.heap.size) → w.heap.size ≤ j := fun j hj => by omega
  rw [← hd] at hI ⊢
  have HI := Lib.hid hI
  have HU1 := Lib.hid hu1
  have HD := Lib.hid hd
  clear hI hu1 hd
  go_wp2_with (go_at_call 21; refine halted ?_)
  unfold Halted
  have hm : mayB (Dk.new 10).size 4 = true := rfl
  have hlo0 : (Dk.new 10).loose.length ≤ 700000000 := Nat.zero_le _
  have hnew := Own.new (w0 := w) (w := w1) (d := d) (D := Dk.new 10) (D' := D1) (n := 4) HI.out (fun j hj => by have := HD.out; omega) HU1.out hm hlo0 E1.out
  clear hm hlo0
  refine hnew.mono ?_
  rintro e2 w2 ⟨p, rfl, ho⟩
  have HO := Lib.hid ho
  clear ho hSd hnew
  go_wp2_with (go_at_call 18; refine halted ?_)
  unfold Halted
  refine (Own.left HO.out (k := 3) rfl).mono ?_
  rintro e3 w3 ⟨rfl, ho3⟩
  have HO3 := Lib.hid ho3
  clear ho3
  go_wp2
  obtain ⟨w4, hrun4, hown4, hgr4⟩ := make_bytes (w := w3) (N := 49) (C := 49) (n := 49) (c := 49) rfl rfl (Nat.le_refl _) (by decide)
  have hu34 : Upd NoS w3 w4 := (Upd.refl NoS w3).grown hgr4 (fun k hk => by cases hk)
  rw [hrun4]
  have HO4 := Lib.hid (HO3.out.no hu34)
  have HR4 := Lib.hid (show Rd w4 5 1 (.slice (some ⟨w3.heap.size, 0, none⟩) z49.length 49) z49.length (bvs z49) from Rd.of_own hown4)
  clear hrun4 hown4 hgr4 hu34
  go_wp2_with (go_at_call 24; refine halted ?_)
  unfold Halted
  refine (HO4.out.append E2.out (by omega) _ _ _ HR4.out).mono ?_
  rintro e5 w5 ⟨rfl, ho5⟩
  have HO5 := Lib.hid ho5
  clear ho5
  go_wp2_with (go_at_call 24; refine halted ?_)
  unfold Halted
  have HR6 : Hid (Rd (w5.alloc (.cells #[.int .u8 7] 5)) 5 1 (.slice (some ⟨w5.heap.size, 0, none⟩) ([7] : List UInt8).length 1) ([7] : List UInt8).length (bvs [7])) := Lib.hid (rd_new' w5 5 1 1 #[.int .u8 7] rfl (by decide))
  refine ((HO5.out.no ((Upd.refl NoS w5).alloc (.cells #[.int .u8 7] 5))).append E3.out (by omega) _ _ _ HR6.out).mono ?_
  rintro e7 w7 ⟨rfl, ho7⟩
  have HO7 := Lib.hid ho7
  clear ho7
  go_wp2_with (go_at_call 24; refine halted ?_)
  unfold Halted
  refine (HO7.out.append (b := []) E4.out (by omega) 5 none 0 (Rd.nil _ _ _)).mono ?_
  rintro e8 w8 ⟨rfl, ho8⟩
  have HO8 := Lib.hid ho8
  clear ho8
  go_wp2_with (go_at_call 22; refine halted ?_)
  unfold Halted
  refine (HO8.out.opens E5.out (by omega)).mono ?_
  rintro e9 w9 ⟨p2, rfl, ho9⟩
  have HO9 := Lib.hid ho9
  clear ho9
  go_wp2_with (go_at_call 27; refine halted ?_)
  unfold Halted
  refine (HO9.out.len (k := 2) rfl).mono ?_
  rintro e10 w10 ⟨rfl, ho10⟩
  have HO10 := Lib.hid ho10
  clear ho10
  go_wp2_with (go_at_call 25; refine halted ?_)
  unfold Halted
  have HR11 : Hid (Rd (w10.alloc (.cells #[.int .u8 8] 5)) 5 1 (.slice (some ⟨w10.heap.size, 0, none⟩) ([8] : List UInt8).length 1) ([8] : List UInt8).length (bvs [8])) := Lib.hid (rd_new' w10 5 1 1 #[.int .u8 8] rfl (by decide))
  refine ((HO10.out.no ((Upd.refl NoS w10).alloc (.cells #[.int .u8 8] 5))).check E6.out (by omega) _ _ _ HR11.out).mono ?_
  rintro e11 w11 ⟨rfl, ho11⟩
  have HO11 := Lib.hid ho11
  clear ho11
  go_wp2_with (go_at_call 19; refine halted ?_)
  unfold Halted
  refine HO11.out.turn.mono ?_
  rintro e12 w12 ⟨rfl, ho12⟩
  have HO12 := Lib.hid ho12
  clear ho12
  go_wp2_with (go_at_call 18; refine halted ?_)
  unfold Halted
  refine (HO12.out.left (k := 3) rfl).mono ?_
  rintro e13 w13 ⟨rfl, ho13⟩
  have HO13 := Lib.hid ho13
  clear ho13
  go_wp2_with (go_at_call 26; refine halted ?_)
  unfold Halted
  refine (HO13.out.snap (b := [8]) rfl).mono ?_
  rintro e14 w14 ⟨a14, c14, rfl, _, ho14⟩
  have HO14 := Lib.hid ho14
  clear ho14
  go_wp2_with (go_at_call 26; refine halted ?_)
  unfold Halted
  refine (HO14.out.snap (b := [8]) rfl).mono ?_
  rintro e15 w15 ⟨a15, c15, rfl, hr15, ho15⟩
  have HO15 := Lib.hid ho15
  obtain ⟨g15, o15, rfl⟩ : ∃ g o, a15 = some ⟨g, o, none⟩ := by
    rcases hr15.shape with ⟨_, h0⟩ | ⟨g, o, c', h1, _⟩
    · cases h0
    · exact ⟨g, o, by cases h1; rfl⟩
  have q15 : w15.cell? ⟨g15, o15, none⟩ = some (.int .u8 8) := hr15.at 0 rfl
  clear ho15 hr15
  go_wp2_with (go_at_call 10; refine (walSectors _ _).mono ?_; rintro e w' ⟨rfl, rfl⟩; refine halted ?_)
  unfold Halted
  rw [show sectorsOf 48 = 1 from rfl]
  go_wp2_with (go_at_call 10; refine (walSectors _ _).mono ?_; rintro e w' ⟨rfl, rfl⟩; refine halted ?_)
  unfold Halted
  rw [show sectorsOf 49 = 2 from rfl]
  go_wp2
  go_ret
  obtain ⟨_, _, _, _, hfin⟩ := HO15.out
  exact ⟨rfl, hfin⟩
end Go.Proofs.Ytomgdfoahfhijaa
