/- octet: numbers as bytes. -/
import Derived.Test.YtomgdfoahfhijaaProg
import Derived.Test.YtomgdfoahfhijaaLib
set_option linter.unusedVariables false
set_option linter.unusedSimpArgs false
namespace Go.Proofs.Ytomgdfoahfhijaa
open Go.RowKit

theorem infoB : (Try.prog.info? 5).map (fun i => (i.zero, i.size, i.bytes)) = some (some (.int .u8 0), 1, 1) := by kernel_rfl
theorem sizeB : (Try.prog.info? 5).map (·.size) = some 1 := by kernel_rfl

/-- k bytes of a number, from the place j on (of w bytes), highest first. -/
def beB (x : Int) (w j : Nat) : UInt8 := UInt8.ofNat (x / 2 ^ (8 * (w - 1 - j)) % 256).toNat
def be (x : Int) (w : Nat) : List UInt8 := (List.range w).map (beB x w)


set_option maxRecDepth 100000 in
set_option maxHeartbeats 1000000 in
theorem lay16 (w : World) (e : Nat) (b : Value) (l : List UInt8) (hb : Rd w e 1 b l.length (bvs l)) (hl : l.length ≤ 1000000000000) (x : Int) (hx0 : 0 ≤ x) (hx : x < 65536) :
    Calls Try.prog 85 #[b, .int .u16 x, .int .i64 2] w fun e w' => ∃ a c, e = .returned (.slice a (l.length + 2) c) ∧ w'.ownsRow w.heap.size 5 1 (.slice a (l.length + 2) c) (l.length + 2) (bvs (l ++ be x 2)) ∧ Upd NoS w w' := by
  obtain ⟨i0, hi, hz0, hz1, hz2⟩ := info_parts infoB
  obtain ⟨a, c, rfl, hlc, hcm, _⟩ := hb.any
  go_enter Try.func85, Try.ntmps85
  go_wp2_with (at_make; refine wpList_make_full _ rfl _ _ 35 rfl w.heap.size 5 i0 (.int .u8 0) 1 Try.underlying35 hi hz0 hz1 _ _ _ _ (l.length + 2) rfl rfl (by omega) (by omega) (by rw [hz2]; omega) (by unfold maxLen; omega) (Nat.le_refl _) ?_; intro w0 hown0 hgrow0)
  have hu0 := (Upd.refl NoS w).grown hgrow0 (by simp)
  obtain ⟨w1, hrun1, hown1, hgrow1⟩ := run_copy_own (P := Try.prog) (dT := 35) (sT := 35) (ty := 3) Try.underlying35 sizeB hown0 (hb.updNo hu0) (by omega) (bvs_one l)
  rw [hrun1]
  have HU := Lib.hid hu0
  clear hrun1 hown0 hgrow0 hu0
  go_wp2
  go_loopw [18] (fun kv wr => ∃ (k : Nat) (tl : List Value), k ≤ 2 ∧ tl.length = 2 - k ∧ kv = .int .i64 k ∧ wr.ownsRow w.heap.size 5 1 (.slice (some ⟨w.heap.size, 0, none⟩) (l.length + 2) (l.length + 2)) (l.length + 2) (bvs (l ++ (List.range k).map (beB x 2)) ++ tl) ∧ w0.grownBy wr (some w.heap.size))
    (fun kv _ => 2 - (intOf kv).toNat)
  case atStart => exact ⟨0, List.drop l.length (madeCells (Value.int IntKind.u8 0).cells ((l.length + 2) * 1)).toList, by omega, by simp [size_madeCells], rfl, by simpa using hown1, hgrow1⟩
  case round =>
    obtain ⟨k, tl, hk, htl, rfl, hown, hgrow⟩ := hrel
    clear hown1 hgrow1
    by_cases hk4 : k < 2
    · obtain ⟨y, tl, rfl⟩ : ∃ y t, tl = y :: t := by cases tl with | nil => simp at htl; omega | cons y t => exact ⟨y, t, rfl⟩
      have hc := hown.cellAt (l.length + k) (by omega)
      have hf := hown.frozenAt (l.length + k)
      have hc2 : wr.cell? ⟨w.heap.size, l.length + k, none⟩ = some y := by rw [hc]; simp [bvs]
      obtain ⟨ho2, hg2⟩ := own_put (j := l.length + k) hown (by simp) (bv (beB x 2 k))
      have HO := Lib.hid ho2
      have HG := Lib.hid (grownBy_tr hgrow hg2)
      clear hown hgrow hc hb ho2 hg2
      go_wp2
      have he : bv (beB x 2 k) = .int .u8 (x / 2 ^ (8 * (1 - k)) % 256) := bv_mod _
      rw [← he]
      refine ⟨⟨k + 1, tl, by omega, by simp at htl; omega, by go_num, ?_, HG.out⟩, by simp [intOf]; omega⟩
      have := HO.out
      rwa [List.range_succ, List.map_append, List.map_cons, List.map_nil, ← List.append_assoc l, bvs_append _ [_], List.append_assoc _ (bvs [_])]
    · obtain rfl : k = 2 := by omega
      obtain rfl : tl = [] := List.eq_nil_of_length_eq_zero (by omega)
      go_wp2
      go_ret
      exact ⟨_, _, rfl, by simpa [be] using hown, HU.out.grown hgrow (fun k hk hlt => by cases hk; exact absurd hlt (Nat.lt_irrefl _))⟩

theorem put16 (w : World) (e : Nat) (b : Value) (l : List UInt8) (hb : Rd w e 1 b l.length (bvs l)) (hl : l.length ≤ 1000000000000) (x : Int) (hx0 : 0 ≤ x) (hx : x < 65536) :
    Calls Try.prog 76 #[b, .int .u16 x] w fun e w' => ∃ a c, e = .returned (.slice a (l.length + 2) c) ∧ w'.ownsRow w.heap.size 5 1 (.slice a (l.length + 2) c) (l.length + 2) (bvs (l ++ be x 2)) ∧ Upd NoS w w' := by
  go_enter Try.func76, Try.ntmps76
  go_wp2_with (go_at_call 85; refine (lay16 _ _ _ _ hb hl x hx0 hx).mono ?_; rintro e w' ⟨_, _, rfl, h1, h2⟩)
  go_ret
  exact ⟨_, _, rfl, h1, h2⟩

set_option maxRecDepth 100000 in
set_option maxHeartbeats 1000000 in
theorem lay32 (w : World) (e : Nat) (b : Value) (l : List UInt8) (hb : Rd w e 1 b l.length (bvs l)) (hl : l.length ≤ 1000000000000) (x : Int) (hx0 : 0 ≤ x) (hx : x < 4294967296) :
    Calls Try.prog 84 #[b, .int .u32 x, .int .i64 4] w fun e w' => ∃ a c, e = .returned (.slice a (l.length + 4) c) ∧ w'.ownsRow w.heap.size 5 1 (.slice a (l.length + 4) c) (l.length + 4) (bvs (l ++ be x 4)) ∧ Upd NoS w w' := by
  obtain ⟨i0, hi, hz0, hz1, hz2⟩ := info_parts infoB
  obtain ⟨a, c, rfl, hlc, hcm, _⟩ := hb.any
  go_enter Try.func84, Try.ntmps84
  go_wp2_with (at_make; refine wpList_make_full _ rfl _ _ 35 rfl w.heap.size 5 i0 (.int .u8 0) 1 Try.underlying35 hi hz0 hz1 _ _ _ _ (l.length + 4) rfl rfl (by omega) (by omega) (by rw [hz2]; omega) (by unfold maxLen; omega) (Nat.le_refl _) ?_; intro w0 hown0 hgrow0)
  have hu0 := (Upd.refl NoS w).grown hgrow0 (by simp)
  obtain ⟨w1, hrun1, hown1, hgrow1⟩ := run_copy_own (P := Try.prog) (dT := 35) (sT := 35) (ty := 3) Try.underlying35 sizeB hown0 (hb.updNo hu0) (by omega) (bvs_one l)
  rw [hrun1]
  have HU := Lib.hid hu0
  clear hrun1 hown0 hgrow0 hu0
  go_wp2
  go_loopw [18] (fun kv wr => ∃ (k : Nat) (tl : List Value), k ≤ 4 ∧ tl.length = 4 - k ∧ kv = .int .i64 k ∧ wr.ownsRow w.heap.size 5 1 (.slice (some ⟨w.heap.size, 0, none⟩) (l.length + 4) (l.length + 4)) (l.length + 4) (bvs (l ++ (List.range k).map (beB x 4)) ++ tl) ∧ w0.grownBy wr (some w.heap.size))
    (fun kv _ => 4 - (intOf kv).toNat)
  case atStart => exact ⟨0, List.drop l.length (madeCells (Value.int IntKind.u8 0).cells ((l.length + 4) * 1)).toList, by omega, by simp [size_madeCells], rfl, by simpa using hown1, hgrow1⟩
  case round =>
    obtain ⟨k, tl, hk, htl, rfl, hown, hgrow⟩ := hrel
    clear hown1 hgrow1
    by_cases hk4 : k < 4
    · obtain ⟨y, tl, rfl⟩ : ∃ y t, tl = y :: t := by cases tl with | nil => simp at htl; omega | cons y t => exact ⟨y, t, rfl⟩
      have hc := hown.cellAt (l.length + k) (by omega)
      have hf := hown.frozenAt (l.length + k)
      have hc2 : wr.cell? ⟨w.heap.size, l.length + k, none⟩ = some y := by rw [hc]; simp [bvs]
      obtain ⟨ho2, hg2⟩ := own_put (j := l.length + k) hown (by simp) (bv (beB x 4 k))
      have HO := Lib.hid ho2
      have HG := Lib.hid (grownBy_tr hgrow hg2)
      clear hown hgrow hc hb ho2 hg2
      go_wp2
      have he : bv (beB x 4 k) = .int .u8 (x / 2 ^ (8 * (3 - k)) % 256) := bv_mod _
      rw [← he]
      refine ⟨⟨k + 1, tl, by omega, by simp at htl; omega, by go_num, ?_, HG.out⟩, by simp [intOf]; omega⟩
      have := HO.out
      rwa [List.range_succ, List.map_append, List.map_cons, List.map_nil, ← List.append_assoc l, bvs_append _ [_], List.append_assoc _ (bvs [_])]
    · obtain rfl : k = 4 := by omega
      obtain rfl : tl = [] := List.eq_nil_of_length_eq_zero (by omega)
      go_wp2
      go_ret
      exact ⟨_, _, rfl, by simpa [be] using hown, HU.out.grown hgrow (fun k hk hlt => by cases hk; exact absurd hlt (Nat.lt_irrefl _))⟩

theorem put32 (w : World) (e : Nat) (b : Value) (l : List UInt8) (hb : Rd w e 1 b l.length (bvs l)) (hl : l.length ≤ 1000000000000) (x : Int) (hx0 : 0 ≤ x) (hx : x < 4294967296) :
    Calls Try.prog 75 #[b, .int .u32 x] w fun e w' => ∃ a c, e = .returned (.slice a (l.length + 4) c) ∧ w'.ownsRow w.heap.size 5 1 (.slice a (l.length + 4) c) (l.length + 4) (bvs (l ++ be x 4)) ∧ Upd NoS w w' := by
  go_enter Try.func75, Try.ntmps75
  go_wp2_with (go_at_call 84; refine (lay32 _ _ _ _ hb hl x hx0 hx).mono ?_; rintro e w' ⟨_, _, rfl, h1, h2⟩)
  go_ret
  exact ⟨_, _, rfl, h1, h2⟩

set_option maxRecDepth 100000 in
set_option maxHeartbeats 1000000 in
theorem lay64 (w : World) (e : Nat) (b : Value) (l : List UInt8) (hb : Rd w e 1 b l.length (bvs l)) (hl : l.length ≤ 1000000000000) (x : Int) (hx0 : 0 ≤ x) (hx : x < 18446744073709551616) :
    Calls Try.prog 98 #[b, .int .u64 x, .int .i64 8] w fun e w' => ∃ a c, e = .returned (.slice a (l.length + 8) c) ∧ w'.ownsRow w.heap.size 5 1 (.slice a (l.length + 8) c) (l.length + 8) (bvs (l ++ be x 8)) ∧ Upd NoS w w' := by
  obtain ⟨i0, hi, hz0, hz1, hz2⟩ := info_parts infoB
  obtain ⟨a, c, rfl, hlc, hcm, _⟩ := hb.any
  go_enter Try.func98, Try.ntmps98
  go_wp2_with (at_make; refine wpList_make_full _ rfl _ _ 35 rfl w.heap.size 5 i0 (.int .u8 0) 1 Try.underlying35 hi hz0 hz1 _ _ _ _ (l.length + 8) rfl rfl (by omega) (by omega) (by rw [hz2]; omega) (by unfold maxLen; omega) (Nat.le_refl _) ?_; intro w0 hown0 hgrow0)
  have hu0 := (Upd.refl NoS w).grown hgrow0 (by simp)
  obtain ⟨w1, hrun1, hown1, hgrow1⟩ := run_copy_own (P := Try.prog) (dT := 35) (sT := 35) (ty := 3) Try.underlying35 sizeB hown0 (hb.updNo hu0) (by omega) (bvs_one l)
  rw [hrun1]
  have HU := Lib.hid hu0
  clear hrun1 hown0 hgrow0 hu0
  go_wp2
  go_loopw [18] (fun kv wr => ∃ (k : Nat) (tl : List Value), k ≤ 8 ∧ tl.length = 8 - k ∧ kv = .int .i64 k ∧ wr.ownsRow w.heap.size 5 1 (.slice (some ⟨w.heap.size, 0, none⟩) (l.length + 8) (l.length + 8)) (l.length + 8) (bvs (l ++ (List.range k).map (beB x 8)) ++ tl) ∧ w0.grownBy wr (some w.heap.size))
    (fun kv _ => 8 - (intOf kv).toNat)
  case atStart => exact ⟨0, List.drop l.length (madeCells (Value.int IntKind.u8 0).cells ((l.length + 8) * 1)).toList, by omega, by simp [size_madeCells], rfl, by simpa using hown1, hgrow1⟩
  case round =>
    obtain ⟨k, tl, hk, htl, rfl, hown, hgrow⟩ := hrel
    clear hown1 hgrow1
    by_cases hk4 : k < 8
    · obtain ⟨y, tl, rfl⟩ : ∃ y t, tl = y :: t := by cases tl with | nil => simp at htl; omega | cons y t => exact ⟨y, t, rfl⟩
      have hc := hown.cellAt (l.length + k) (by omega)
      have hf := hown.frozenAt (l.length + k)
      have hc2 : wr.cell? ⟨w.heap.size, l.length + k, none⟩ = some y := by rw [hc]; simp [bvs]
      obtain ⟨ho2, hg2⟩ := own_put (j := l.length + k) hown (by simp) (bv (beB x 8 k))
      have HO := Lib.hid ho2
      have HG := Lib.hid (grownBy_tr hgrow hg2)
      clear hown hgrow hc hb ho2 hg2
      go_wp2
      have he : bv (beB x 8 k) = .int .u8 (x / 2 ^ (8 * (7 - k)) % 256) := bv_mod _
      rw [← he]
      refine ⟨⟨k + 1, tl, by omega, by simp at htl; omega, by go_num, ?_, HG.out⟩, by simp [intOf]; omega⟩
      have := HO.out
      rwa [List.range_succ, List.map_append, List.map_cons, List.map_nil, ← List.append_assoc l, bvs_append _ [_], List.append_assoc _ (bvs [_])]
    · obtain rfl : k = 8 := by omega
      obtain rfl : tl = [] := List.eq_nil_of_length_eq_zero (by omega)
      go_wp2
      go_ret
      exact ⟨_, _, rfl, by simpa [be] using hown, HU.out.grown hgrow (fun k hk hlt => by cases hk; exact absurd hlt (Nat.lt_irrefl _))⟩

theorem put64 (w : World) (e : Nat) (b : Value) (l : List UInt8) (hb : Rd w e 1 b l.length (bvs l)) (hl : l.length ≤ 1000000000000) (x : Int) (hx0 : 0 ≤ x) (hx : x < 18446744073709551616) :
    Calls Try.prog 93 #[b, .int .u64 x] w fun e w' => ∃ a c, e = .returned (.slice a (l.length + 8) c) ∧ w'.ownsRow w.heap.size 5 1 (.slice a (l.length + 8) c) (l.length + 8) (bvs (l ++ be x 8)) ∧ Upd NoS w w' := by
  go_enter Try.func93, Try.ntmps93
  go_wp2_with (go_at_call 98; refine (lay64 _ _ _ _ hb hl x hx0 hx).mono ?_; rintro e w' ⟨_, _, rfl, h1, h2⟩)
  go_ret
  exact ⟨_, _, rfl, h1, h2⟩

/-- append([]byte(nil), b...) -/
theorem run_append_bytes {w : World} {e' ty : Nat} {s : Value} {l : List UInt8} (hr : Rd w e' 1 s l.length (bvs l)) (hl : l.length ≤ 100000000000000) :
    ∃ a c w', (Builtin.append_ #[35, 35] ty #[.slice none 0 0, s]).run Try.prog w = .ok (.slice a l.length c) w' ∧ w'.ownsRow w.heap.size 5 1 (.slice a l.length c) l.length (bvs l) ∧ Upd NoS w w' := by
  obtain ⟨i0, hi, hz0, hz1, hz2⟩ := info_parts infoB
  exact run_append_nil_rd Try.underlying35 hi hz0 hz1 hz2 rfl (by decide) hr (bvs_one l) (by unfold maxLen; omega) (by omega)

/-- A reader: its block, what is left of its row, why it does not go on. -/
def IsRd (w : World) (r : Nat) (l : List UInt8) (why : Int) : Prop :=
  ∃ v, w.heap[r]? = some (.cells #[v, .int .i64 why] 128 (0, 0)) ∧ Rd w 5 1 v l.length (bvs l)

set_option maxRecDepth 100000 in
theorem octRead (w : World) (e : Nat) (b : Value) (l : List UInt8) (hb : Rd w e 1 b l.length (bvs l)) (hl : l.length ≤ 100000000000000) :
    Calls Try.prog 68 #[b] w fun e w' => ∃ r, e = .returned (.pointer (some ⟨r, 0, none⟩)) ∧ w.heap.size ≤ r ∧ IsRd w' r l 0 ∧ Upd NoS w w' := by
  obtain ⟨a1, c1, w1, hrun1, hown1, hu1⟩ := run_append_bytes (ty := 35) hb hl
  have HO := Lib.hid hown1
  have HU := Lib.hid hu1
  clear hown1 hu1 hb
  go_enter Try.func68, Try.ntmps68
  have HR := Lib.hid hrun1
  clear hrun1
  go_wp2_with (at_builtin; refine wpList_append HR.out rfl rfl rfl rfl ?_)
  go_ret
  exact ⟨_, rfl, HU.out.size, ⟨_, heap_new _ _, (Rd.of_own HO.out).updNo ((Upd.refl _ _).alloc _)⟩, HU.out.alloc _⟩

/-- bytes as a number, highest first -/
def beN (l : List UInt8) : Nat := l.foldl (fun x c => 256 * x + c.toNat) 0
theorem beN_snoc (l : List UInt8) (c : UInt8) : beN (l ++ [c]) = 256 * beN l + c.toNat := by simp [beN]
theorem beN_lt (l : List UInt8) : beN l < 256 ^ l.length := by
  rw [← List.reverse_reverse l]
  induction l.reverse with
  | nil => simp [beN]
  | cons c l ih =>
    have hc := c.toNat_lt
    rw [List.reverse_cons, beN_snoc, List.length_append, List.length_singleton, Nat.pow_succ]
    omega
theorem beN_lt8 {l : List UInt8} (h : l.length ≤ 8) : beN l < 18446744073709551616 :=
  Nat.lt_of_lt_of_le (beN_lt l) (by have := Nat.pow_le_pow_right (show 0 < 256 by decide) h; simpa using this)
theorem take_snoc' {α : Type} (l : List α) (k : Nat) (h : k < l.length) : l.take (k + 1) = l.take k ++ [l[k]] := by
  rw [List.take_succ_eq_append_getElem h]

set_option maxRecDepth 100000 in
set_option maxHeartbeats 1000000 in
theorem weigh1 (w : World) (e X : Nat) (b : Value) (l : List UInt8) (hb : Rd w e 1 b l.length (bvs l)) (hl : l.length ≤ 8) (hne : b.ownBlock ≠ some X)
    (hX : w.heap[X]? = some (.cells #[.int .u64 0] 129 (0, 0))) :
    Calls Try.prog 88 #[b, .pointer (some ⟨X, 0, none⟩)] w fun e w' => e = .returned (.tuple #[]) ∧ w'.heap[X]? = some (.cells #[.int .u64 (beN l)] 129 (0, 0)) ∧ Upd (OneS X) w w' := by
  obtain ⟨a, c, rfl, hlc, hcm, hpos⟩ := hb.open
  have HC := Lib.hid hpos
  clear hpos
  go_enter Try.func88, Try.ntmps88
  go_wp2
  go_loopw [7] (fun kv wr => ∃ k : Nat, k ≤ l.length ∧ kv = .int .i64 k ∧ wr.heap[X]? = some (.cells #[.int .u64 (beN (l.take k))] 129 (0, 0)) ∧ Upd (OneS X) w wr) (fun kv _ => l.length - (intOf kv).toNat)
  case atStart => exact ⟨0, by omega, rfl, by simpa [beN] using hX, Upd.refl _ _⟩
  case round =>
    obtain ⟨k, hk, rfl, hXr, hu⟩ := hrel
    by_cases hlt : k < l.length
    · obtain ⟨g, o, rfl⟩ := HC.out (by omega)
      have hcell := hu.cell (hb.at k (bvs_get hlt)) (fun e => hne (by simpa [OneS, Value.ownBlock] using e))
      have hx := cell_at hXr 0
      have hf := free_at hXr 0
      have hlt8 := beN_lt8 (l := l.take (k + 1)) (by simp; omega)
      rw [take_snoc' l k hlt, beN_snoc] at hlt8
      have HX := Lib.hid (heap_set hXr 0 (.int .u64 (beN (l.take (k + 1)))))
      have HU := Lib.hid hu
      clear hb hX hne hXr hu
      go_wp2
      have he : ((256 * (beN (l.take k) : Int) + (l[k].toNat : Int)) : Int) = ((beN (l.take (k + 1)) : Nat) : Int) := by rw [take_snoc' l k hlt, beN_snoc]; simp
      rw [he]
      exact ⟨⟨k + 1, by omega, by go_num, by simpa using HX.out, HU.out.setCell _ _ (fun _ => rfl)⟩, by simp [intOf]; omega⟩
    · obtain rfl : k = l.length := by omega
      go_wp2
      go_end0
      exact ⟨rfl, by simpa using hXr, hu⟩

/-- A reader takes n bytes off and reads them as a number. -/
def rdNum (l : List UInt8) (why : Int) (n : Nat) : Nat × List UInt8 × Int :=
  if why ≠ 0 then (0, l, why) else if l.length < n then (0, l, 7) else (beN (l.take n), l.drop n, 0)

theorem cell_lt {w : World} {a : Addr} {v : Value} (h : w.cell? a = some v) : a.block < w.heap.size := block_lt_of_cell h
theorem weigh_end {w w1 : World} {r : Nat} {v0 sv x : Value} {why : Int} {l' : List UInt8} {o : Obj} (HH : w.heap[r]? = some (.cells #[v0, .int .i64 why] 128 (0, 0)))
    (hsv : Rd w 5 1 sv l'.length (bvs l')) (HU : Upd (OneS w.heap.size) ((w.setCell ⟨r, 0, none⟩ sv).alloc o) w1) :
    IsRd (w1.setCell ⟨w.heap.size, 0, none⟩ x) r l' why ∧ Upd (OneS r) w (w1.setCell ⟨w.heap.size, 0, none⟩ x) := by
  have hrl := lt_of_heap HH
  have hu : Upd (OneS r) w w1 := (((Upd.refl (OneS r) w).setCell ⟨r, 0, none⟩ sv (fun _ => rfl)).alloc o).trans HU (fun k hk hs => absurd hk (by rw [show k = w.heap.size from hs]; exact Nat.lt_irrefl _))
  have hu2 : Upd (OneS r) w (w1.setCell ⟨w.heap.size, 0, none⟩ x) := hu.setCell _ _ (fun h => absurd h (Nat.lt_irrefl _))
  refine ⟨⟨sv, ?_, hsv.upd hu2 (hsv.ne HH (by decide))⟩, hu2⟩
  refine heap_set_ne (HU.heap (heap_old (heap_set HH 0 sv)) ?_) ?_ _
  · intro h; exact Nat.ne_of_lt hrl h
  · exact Nat.ne_of_lt hrl

set_option maxRecDepth 100000 in
set_option maxHeartbeats 1000000 in
theorem weigh (w : World) (r : Nat) (l : List UInt8) (why : Int) (hr : IsRd w r l why) (hl : l.length ≤ 100000000000000) (n : Nat) (hn : n ≤ 8) (hn1 : 0 < n) :
    Calls Try.prog 81 #[.pointer (some ⟨r, 0, none⟩), .int .i64 n] w fun e w' => e = .returned (.int .u64 (rdNum l why n).1) ∧ IsRd w' r (rdNum l why n).2.1 (rdNum l why n).2.2 ∧ Upd (OneS r) w w' := by
  obtain ⟨v, hh, hv⟩ := hr
  obtain ⟨a, c, rfl, hlc, hcm, hpos⟩ := hv.open
  have HC := Lib.hid hpos
  clear hpos
  have hrl := lt_of_heap hh
  have c0 := cell_at hh 0
  have c1 := cell_at hh 1
  have f0 := free_at hh 0
  have f1 := free_at hh 1
  by_cases hw : why = 0
  · subst hw
    by_cases hs : l.length < n
    · go_enter Try.func81, Try.ntmps81
      go_wp2
      have hR : rdNum l 0 n = (0, l, 7) := by simp [rdNum, hs]
      rw [hR]
      exact bodyPost_ret (v := .int .u64 0) (by simp [results, Try.results81, go_sem]) rfl ⟨rfl, ⟨_, heap_old (heap_set hh 1 _), hv.upd (((Upd.refl (OneS r) w).setCell ⟨r, 1, none⟩ (.int .i64 7) (fun _ => rfl)).alloc _) (hv.ne hh (by decide))⟩, ((Upd.refl (OneS r) w).setCell ⟨r, 1, none⟩ _ (fun _ => rfl)).alloc _⟩
    · have hR : rdNum l 0 n = (beN (l.take n), l.drop n, 0) := by simp [rdNum, hs]
      rw [hR]
      clear hR
      obtain ⟨g, o, rfl⟩ := HC.out (by omega)
      have hlen : (l.take n).length = n := by simp; omega
      have hgr : g ≠ r := fun e => hv.ne hh (by decide) g rfl e
      have hgl := hv.lt g rfl
      have hu0 : ∀ v', Upd (OneS r) w ((w.setCell ⟨r, 0, none⟩ v').alloc (.cells #[.int .u64 0] 129)) := fun v' => ((Upd.refl (OneS r) w).setCell ⟨r, 0, none⟩ v' (fun _ => rfl)).alloc _
      have ht := hv.take (n := n) (by omega)
      have HH := Lib.hid hh
      by_cases hcn : c = n
      · subst hcn
        have HT := Lib.hid (show Rd w 5 1 (.slice (some ⟨g, o, none⟩) c c) (l.take c).length (bvs (l.take c)) by rw [hlen, bvs, List.map_take]; exact ht)
        have HD := Lib.hid (show Rd w 5 1 (.slice (some ⟨g, o, none⟩) (l.length - c) 0) (l.drop c).length (bvs (l.drop c)) by rw [List.length_drop, bvs, List.map_drop]; have := hv.dropEnd (n := c) (by omega) rfl; rwa [Nat.sub_self] at this)
        clear ht hv hh
        go_enter Try.func81, Try.ntmps81
        go_wp2_with (first | (go_at_call 88; refine halted ?_) | go_in)
        unfold Halted
        refine Calls.mono (weigh1 _ 5 w.heap.size _ (l.take c) ?_ ?_ ?_ ?_) ?_
        · exact HT.out.upd (hu0 _) (fun k hk => by cases hk; exact hgr)
        · omega
        · intro e; cases e; exact absurd hgl (Nat.lt_irrefl _)
        · exact heap_new' (by simp)
        rintro e w1 ⟨rfl, hX, hu⟩
        have hx := cell_at hX 0
        have hfx := free_at hX 0
        have HX := Lib.hid hX
        have hlc' : l.length - c = 0 := by omega
        have HU := Lib.hid hu
        clear hX hu hu0
        rw [hlc'] at HD
        go_wp2
        obtain ⟨h1, h2⟩ := weigh_end HH.out HD.out HU.out
        exact bodyPost_ret (v := .int .u64 (beN (l.take c))) (by simp [results, Try.results81, go_sem, hx, hfx]) rfl ⟨rfl, h1, h2⟩
      · have HT := Lib.hid (show Rd w 5 1 (.slice (some ⟨g, o, none⟩) n c) (l.take n).length (bvs (l.take n)) by rw [hlen, bvs, List.map_take]; exact ht)
        have HD := Lib.hid (show Rd w 5 1 (.slice (some ⟨g, o + n, none⟩) (l.length - n) (c - n)) (l.drop n).length (bvs (l.drop n)) by rw [List.length_drop, bvs, List.map_drop]; exact hv.drop (n := n) (by omega))
        clear ht hv hh
        go_enter Try.func81, Try.ntmps81
        go_wp2_with (first | (go_at_call 88; refine halted ?_) | go_in)
        unfold Halted
        refine Calls.mono (weigh1 _ 5 w.heap.size _ (l.take n) ?_ ?_ ?_ ?_) ?_
        · exact HT.out.upd (hu0 _) (fun k hk => by cases hk; exact hgr)
        · omega
        · intro e; cases e; exact absurd hgl (Nat.lt_irrefl _)
        · exact heap_new' (by simp)
        rintro e w1 ⟨rfl, hX, hu⟩
        have hx := cell_at hX 0
        have hfx := free_at hX 0
        have HX := Lib.hid hX
        have HU := Lib.hid hu
        clear hX hu hu0
        go_wp2
        obtain ⟨h1, h2⟩ := weigh_end HH.out HD.out HU.out
        exact bodyPost_ret (v := .int .u64 (beN (l.take n))) (by simp [results, Try.results81, go_sem, hx, hfx]) rfl ⟨rfl, h1, h2⟩
  · have hw' : (why == 0) = false := by simpa using hw
    have hw'' : (why != 0) = true := by simpa using hw
    go_enter Try.func81, Try.ntmps81
    go_wp2
    have hR : rdNum l why n = (0, l, why) := by simp [rdNum, hw]
    rw [hR]
    exact bodyPost_ret (v := .int .u64 0) (by simp [results, Try.results81, go_sem]) rfl ⟨rfl, ⟨_, heap_old hh, hv.upd ((Upd.refl (OneS r) w).alloc _) (hv.ne hh (by decide))⟩, ((Upd.refl (OneS r) w)).alloc _⟩

theorem octU32 (w : World) (r : Nat) (l : List UInt8) (hr : IsRd w r l 0) (hl : l.length ≤ 100000000000000) (h4 : 4 ≤ l.length) :
    Calls Try.prog 69 #[.pointer (some ⟨r, 0, none⟩)] w fun e w' => e = .returned (.int .u32 (beN (l.take 4))) ∧ IsRd w' r (l.drop 4) 0 ∧ Upd (OneS r) w w' := by
  have hR : rdNum l 0 4 = (beN (l.take 4), l.drop 4, 0) := by simp [rdNum]; omega
  have hlt := beN_lt (l.take 4)
  have hlen : (l.take 4).length = 4 := by simp; omega
  rw [hlen] at hlt
  have hC := weigh w r l 0 hr hl 4 (by omega) (by omega)
  rw [hR] at hC
  have HC := Lib.hid hC
  clear hC hR hr hlen
  go_enter Try.func69, Try.ntmps69
  go_wp2_with (go_at_call 81; refine HC.out.mono ?_; rintro e w' ⟨rfl, h1, h2⟩)
  go_ret
  exact ⟨rfl, h1, h2⟩
theorem octU16 (w : World) (r : Nat) (l : List UInt8) (hr : IsRd w r l 0) (hl : l.length ≤ 100000000000000) (h4 : 2 ≤ l.length) :
    Calls Try.prog 73 #[.pointer (some ⟨r, 0, none⟩)] w fun e w' => e = .returned (.int .u16 (beN (l.take 2))) ∧ IsRd w' r (l.drop 2) 0 ∧ Upd (OneS r) w w' := by
  have hR : rdNum l 0 2 = (beN (l.take 2), l.drop 2, 0) := by simp [rdNum]; omega
  have hlt := beN_lt (l.take 2)
  have hlen : (l.take 2).length = 2 := by simp; omega
  rw [hlen] at hlt
  have hC := weigh w r l 0 hr hl 2 (by omega) (by omega)
  rw [hR] at hC
  have HC := Lib.hid hC
  clear hC hR hr hlen
  go_enter Try.func73, Try.ntmps73
  go_wp2_with (go_at_call 81; refine HC.out.mono ?_; rintro e w' ⟨rfl, h1, h2⟩)
  go_ret
  exact ⟨rfl, h1, h2⟩
end Go.Proofs.Ytomgdfoahfhijaa
