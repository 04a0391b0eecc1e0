/- wal: what a log is; Format. -/
import Derived.Test.YtomgdfoahfhijaaWaw
set_option linter.unusedVariables false
set_option linter.unusedSimpArgs false
namespace Go.Proofs.Ytomgdfoahfhijaa
open Go.RowKit

/-- A log's model. -/
structure Wl where
  n : Int
  turn : Int
  said : List (List UInt8)
  fin : Int
  broken : Bool
structure Wl.Ok (L : Wl) : Prop where
  n0 : 4 ≤ L.n
  n1 : L.n ≤ 1000
  t0 : 0 ≤ L.turn
  t1 : L.turn < 4294967296
  s0 : 1 ≤ L.said.length
  s1 : (L.said.length : Int) ≤ L.fin
  f1 : L.fin ≤ L.n
  each : ∀ l ∈ L.said, l.length ≤ 40000
def walC (d : Nat) (L : Wl) (vs : Value) : Array Value := #[.pointer (some ⟨d, 0, none⟩), .int .i64 L.n, .int .u32 L.turn, vs, .int .i64 L.fin, .bool L.broken]
/-- What was said: a slice of slices, none of them in F. -/
def IsSaid (w : World) (vs : Value) (said : List (List UInt8)) (F : Nat → Prop) : Prop :=
  ∃ vals : List Value, Rd w 35 1 vs said.length vals ∧ (∀ k, vs.ownBlock = some k → ¬ F k) ∧
    ∀ (i : Nat) (v : Value) (l : List UInt8), vals[i]? = some v → said[i]? = some l → Rd w 5 1 v l.length (bvs l) ∧ ∀ k, v.ownBlock = some k → ¬ F k
theorem IsSaid.upd {w w' : World} {vs : Value} {said : List (List UInt8)} {F F' T : Nat → Prop} (h : IsSaid w vs said F) (hu : Upd T w w') (hT : ∀ k, k < w.heap.size → T k → F k) (hF : ∀ k, k < w.heap.size → F' k → F k) : IsSaid w' vs said F' := by
  obtain ⟨vals, h1, h2, h3⟩ := h
  refine ⟨vals, h1.upd hu (fun k hk e => h2 k hk (hT k (h1.lt k hk) e)), fun k hk e => h2 k hk (hF k (h1.lt k hk) e), fun i v l hv hl => ?_⟩
  obtain ⟨h4, h5⟩ := h3 i v l hv hl
  exact ⟨h4.upd hu (fun k hk e => h5 k hk (hT k (h4.lt k hk) e)), fun k hk e => h5 k hk (hF k (h4.lt k hk) e)⟩
def IsWal (w : World) (p d : Nat) (D : Dk) (S : Nat → Prop) (L : Wl) : Prop :=
  IsDisk w d D S ∧ ¬ S p ∧ L.Ok ∧ ∃ vs, w.heap[p]? = some (.cells (walC d L vs) 73 (0, 0)) ∧ IsSaid w vs L.said (fun k => S k ∨ k = p)
theorem IsWal.upd {w w' : World} {p d : Nat} {D : Dk} {S T : Nat → Prop} {L : Wl} (h : IsWal w p d D S L) (hu : Upd T w w') (hT : ∀ k, k < w.heap.size → ¬ T k) : IsWal w' p d D S L := by
  have hu0 : Upd NoS w w' := hu.mono fun k hk e => hT k hk e
  obtain ⟨h1, h2, h3, vs, h4, h5⟩ := h
  exact ⟨h1.updNo hu0, h2, h3, vs, hu0.heap h4 id, h5.upd hu0 (fun _ _ e => e.elim) (fun _ _ e => e)⟩
theorem IsWal.updNo {w w' : World} {p d : Nat} {D : Dk} {S : Nat → Prop} {L : Wl} (h : IsWal w p d D S L) (hu : Upd NoS w w') : IsWal w' p d D S L := h.upd hu fun _ _ e => e
/-- What an act on a log leaves. -/
def WalTo (w w' : World) (p d : Nat) (D : Dk) (L : Wl) (S : Nat → Prop) : Prop :=
  ∃ S', IsWal w' p d D S' L ∧ (∀ k, S' k → S k ∨ w.heap.size ≤ k) ∧ Upd (fun k => S k ∨ k = p) w w'
def zero64 : List UInt8 := List.replicate 64 0
def Dk.format (D : Dk) (n : Int) : Int × Dk :=
  if (D.lays 0 (List.replicate (2 * n + 2).toNat zero64)).1 = 0 then (D.lays 0 (List.replicate (2 * n + 2).toNat zero64)).2.begin n 0 [] else D.lays 0 (List.replicate (2 * n + 2).toNat zero64)
def Wl.fresh (n : Int) : Wl := ⟨n, 0, [[]], 1, false⟩
theorem Wl.fresh_ok {n : Int} (h1 : 4 ≤ n) (h2 : n ≤ 1000) : (Wl.fresh n).Ok :=
  ⟨h1, h2, Int.le_refl 0, by show (0 : Int) < 4294967296; decide, Nat.le_refl 1, Int.le_refl 1, by show 1 ≤ n; omega, fun l hl => by simp [Wl.fresh] at hl; simp [hl]⟩
def zeroCs (P : Program) (t : TypeId) : Option (Array Value) := (P.info? t).bind fun i => i.zero.map fun z => z.cells
theorem built_zero {P : Program} {t : TypeId} {zs : Array Value} {places : List (Nat × Nat)} (hp : placesOf P t = some places) (hz : zeroCs P t = some zs) (parts : List (Nat × Value)) : P.built t parts = Instr.fill (places.toArray[·]?) zs parts := by
  obtain ⟨it, hit, h1⟩ := Option.bind_eq_some_iff.1 hz
  obtain ⟨z, hzz, rfl⟩ := Option.map_eq_some_iff.1 h1
  unfold placesOf at hp
  unfold Program.built
  cases hu : P.underlying t with
  | none => rw [hu] at hp; cases hp
  | some d =>
    rw [hu] at hp
    cases d with
    | struct fields =>
      simp only at hp
      simp only [hit, hzz, hp]
    | _ => simp at hp
theorem placesWal : placesOf Try.prog 73 = some [(0, 3), (3, 1), (4, 1), (5, 1)] := by kernel_rfl
theorem zeroWal : zeroCs Try.prog 73 = some #[.pointer none, .int .i64 0, .int .u32 0, .slice none 0 0, .int .i64 0, .bool false] := by kernel_rfl
theorem sizeWal : (Try.prog.info? 73).map (·.size) = some 6 := by kernel_rfl
theorem builtWal (d : Nat) (n turn f : Int) (a : Option Addr) (m c : Nat) : Try.prog.built 73 [(0, .agg (bookC d n turn)), (1, .slice a m c), (2, .int .i64 f)] = some #[.pointer (some ⟨d, 0, none⟩), .int .i64 n, .int .u32 turn, .slice a m c, .int .i64 f, .bool false] := by
  rw [built_zero placesWal zeroWal]
  refine (fill_one (off := 0) (size := 3) rfl rfl (by decide)).trans ?_
  refine (fill_one (cells := #[.pointer (some ⟨d, 0, none⟩), .int .i64 n, .int .u32 turn, .slice none 0 0, .int .i64 0, .bool false]) (off := 3) (size := 1) rfl rfl (by simp)).trans ?_
  refine (fill_one (cells := #[.pointer (some ⟨d, 0, none⟩), .int .i64 n, .int .u32 turn, .slice a m c, .int .i64 0, .bool false]) (off := 4) (size := 1) rfl rfl (by simp)).trans ?_
  rw [Instr.fill.eq_1]
  rfl
theorem wpList_sliceOne {P : Program} {ops : Array Oper} {Q : Exit → Act → World → Prop} {rest : List Oper} {o : Oper} {a : Act} {w : World} {t e size : Nat} {x : Operand} {cells : Array Value} {ie : TypeInfo} {z v : Value} (hg : o.guard = none) (ho : o.op = .buildSlice t 1 #[(0, x)]) (hx : a.eval x = v)
    (hu : P.underlying t = some (.slice e)) (hie : P.info? e = some ie) (hz : ie.zero = some z) (hs : ie.size = size) (h0 : 0 < size) (h1 : size ≤ 1000000)
    (hf : ∀ zs : Array Value, zs.size = size → Instr.fill (fun i => some (i * size, size)) zs [(0, v)] = some cells)
    (h : wpList P ops Q rest (a.put o.dst (.slice (some ⟨w.heap.size, 0, none⟩) 1 1)) (w.alloc (.cells cells e))) : wpList P ops Q (o :: rest) a w :=
  wpList_plain hg fun K hK => wp_sliceOne ho hx hu hie hz hs h0 h1 hf (hK _ _ h)
theorem infoS : (Try.prog.info? 35).map (fun i => (i.zero, i.size, i.bytes)) = some (some (.slice none 0 0), 1, 24) := by kernel_rfl
theorem fillS (a : Option Addr) (m c : Nat) (zs : Array Value) (hz : zs.size = 1) : Instr.fill (fun i => some (i * 1, 1)) zs [(0, .slice a m c)] = some #[.slice a m c] := by
  rw [fill_one (off := 0) (size := 1) rfl rfl (by omega), Instr.fill.eq_1]
  refine congrArg some (Array.ext' ?_)
  rw [List.toList_toArray, List.take_zero, List.drop_of_length_le (by simp; omega), List.append_nil]
  rfl
theorem zero64_lit : (#[Value.int IntKind.u8 0, Value.int IntKind.u8 0, Value.int IntKind.u8 0, Value.int IntKind.u8 0, Value.int IntKind.u8 0, Value.int IntKind.u8 0, Value.int IntKind.u8 0, Value.int IntKind.u8 0, Value.int IntKind.u8 0, Value.int IntKind.u8 0, Value.int IntKind.u8 0, Value.int IntKind.u8 0, Value.int IntKind.u8 0, Value.int IntKind.u8 0, Value.int IntKind.u8 0, Value.int IntKind.u8 0, Value.int IntKind.u8 0, Value.int IntKind.u8 0, Value.int IntKind.u8 0, Value.int IntKind.u8 0, Value.int IntKind.u8 0, Value.int IntKind.u8 0, Value.int IntKind.u8 0, Value.int IntKind.u8 0, Value.int IntKind.u8 0, Value.int IntKind.u8 0, Value.int IntKind.u8 0, Value.int IntKind.u8 0, Value.int IntKind.u8 0, Value.int IntKind.u8 0, Value.int IntKind.u8 0, Value.int IntKind.u8 0, Value.int IntKind.u8 0, Value.int IntKind.u8 0, Value.int IntKind.u8 0, Value.int IntKind.u8 0, Value.int IntKind.u8 0, Value.int IntKind.u8 0, Value.int IntKind.u8 0, Value.int IntKind.u8 0, Value.int IntKind.u8 0, Value.int IntKind.u8 0, Value.int IntKind.u8 0, Value.int IntKind.u8 0, Value.int IntKind.u8 0, Value.int IntKind.u8 0, Value.int IntKind.u8 0, Value.int IntKind.u8 0, Value.int IntKind.u8 0, Value.int IntKind.u8 0, Value.int IntKind.u8 0, Value.int IntKind.u8 0, Value.int IntKind.u8 0, Value.int IntKind.u8 0, Value.int IntKind.u8 0, Value.int IntKind.u8 0, Value.int IntKind.u8 0, Value.int IntKind.u8 0, Value.int IntKind.u8 0, Value.int IntKind.u8 0, Value.int IntKind.u8 0, Value.int IntKind.u8 0, Value.int IntKind.u8 0, Value.int IntKind.u8 0] : Array Value) = (bvs zero64).toArray := rfl
theorem walFormatNil (w : World) (n : Int) : Calls Try.prog 21 #[.pointer none, .int .i64 n] w fun e w' => e = .returned (.tuple #[.pointer none, .int .i64 1]) ∧ w' = w := by
  go_enter Try.func21, Try.ntmps21
  go_wp2
  go_ret2
  exact ⟨rfl, rfl⟩
set_option maxRecDepth 100000 in
theorem walFormatBad (w : World) (d : Nat) (D : Dk) (S : Nat → Prop) (h : IsDisk w d D S) (n : Int) (hn1 : -9223372036854775808 ≤ n) (hn2 : n ≤ 9223372036854775807) (hm : mayB D.size n = false) :
    Calls Try.prog 21 #[.pointer (some ⟨d, 0, none⟩), .int .i64 n] w fun e w' => e = .returned (.tuple #[.pointer none, .int .i64 2]) ∧ w' = w := by
  have HI := Lib.hid h
  clear h
  go_enter Try.func21, Try.ntmps21
  go_wp2_with (go_at_call 41; refine (walMay _ d D S HI.out n hn1 hn2).mono ?_; rw [hm]; rintro e w' ⟨rfl, rfl⟩)
  go_ret2
  exact ⟨rfl, rfl⟩
set_option maxRecDepth 100000 in
set_option maxHeartbeats 2000000 in
theorem walFormat (w : World) (d : Nat) (D : Dk) (S : Nat → Prop) (h : IsDisk w d D S) (n : Int) (hm : mayB D.size n = true) (hlo : D.loose.length ≤ 700000000) :
    Calls Try.prog 21 #[.pointer (some ⟨d, 0, none⟩), .int .i64 n] w fun e w' =>
      ((D.format n).1 ≠ 0 ∧ e = .returned (.tuple #[.pointer none, .int .i64 (D.format n).1]) ∧ DskTo w w' d (D.format n).2 S) ∨
      ((D.format n).1 = 0 ∧ ∃ p, w.heap.size ≤ p ∧ e = .returned (.tuple #[.pointer (some ⟨p, 0, none⟩), .int .i64 0]) ∧ WalTo w w' p d (D.format n).2 (Wl.fresh n) S) := by
  have HI := Lib.hid h
  obtain ⟨hn1, hn2, hsz⟩ : 4 ≤ n ∧ n ≤ 1000 ∧ 2 * n + 2 ≤ D.size := by simpa [mayB, and_assoc] using hm
  have HM := Lib.hid hm
  clear h hm
  go_enter Try.func21, Try.ntmps21
  go_wp2_with (first
    | (go_at_call 41; refine (walMay _ d D S HI.out n (by omega) (by omega)).mono ?_; rw [HM.out]; rintro e w' ⟨rfl, rfl⟩)
    | (go_at_call 43; refine halted ?_))
  unfold Halted
  rw [zero64_lit]
  refine (walOnly w' zero64 (2 * n + 2)).mono ?_
  rintro e1 w1 ⟨rfl, hw1⟩
  rw [← alloc2, show 2 * n + 2 = ((2 * n + 2).toNat : Int) by omega] at hw1
  have HW1 := Lib.hid hw1
  clear hw1
  go_wp2_with (go_at_call 42; refine halted ?_)
  unfold Halted
  rw [HW1.out]
  refine (walLayOnly w' d D S HI.out 0 (by decide) (by decide) zero64 rfl (2 * n + 2).toNat (by omega) (by omega)).mono ?_
  rintro e2 w2 ⟨rfl, hto⟩
  have HTO := Lib.hid hto
  have hl2 : (D.lays 0 (List.replicate (2 * n + 2).toNat zero64)).2.loose.length ≤ 800000000 := by
    have := Dk.lays_loose (List.replicate (2 * n + 2).toNat zero64) D 0
    rw [List.length_replicate] at this
    omega
  have hF : Dk.format D n = if (D.lays 0 (List.replicate (2 * n + 2).toNat zero64)).1 = 0 then (D.lays 0 (List.replicate (2 * n + 2).toNat zero64)).2.begin n 0 [] else D.lays 0 (List.replicate (2 * n + 2).toNat zero64) := rfl
  obtain ⟨R, hR⟩ : ∃ R, R = D.lays 0 (List.replicate (2 * n + 2).toNat zero64) := ⟨_, rfl⟩
  rw [← hR] at hl2 ⊢
  rw [← hR] at hto hF
  have HTO := Lib.hid hto
  clear hto hR
  by_cases e0 : R.1 = 0
  · rw [if_pos e0] at hF
    have HF := Lib.hid hF
    rw [e0]
    clear e0 hF
    go_wp2_with (go_at_call 44; refine halted ?_)
    unfold Halted
    refine calls_name ?_
    intro W3 hW3
    have hu3 : Upd NoS w2 W3 := by rw [hW3]; first | exact (Upd.refl NoS w2).alloc _ | exact ((Upd.refl NoS w2).alloc _).setRow _ _ (fun e => absurd e (by omega))
    have hg3 : W3.heap[w2.heap.size]? = some (.cells (bookC d n 0) 71 (0, 0)) := by rw [hW3]; exact heap_new _ _
    have HU3 := Lib.hid hu3
    have HG3 := Lib.hid hg3
    clear hW3 hu3 hg3
    obtain ⟨S2, j1, j2, j3, j4⟩ := HTO.out
    have J1 := Lib.hid j1
    have J2 := Lib.hid j2
    have J3 := Lib.hid j3
    have J4 := Lib.hid j4
    clear j1 j2 j3 j4
    refine (walBegin W3 d R.2 S2 (J1.out.updNo HU3.out) n 0 (by omega) hn2 (by decide) (by decide) 5 none 0 [] (Rd.nil _ _ _) (by simp) (fun k hk => by cases hk) hl2).mono ?_
    rintro e4 w4 ⟨rfl, hto4⟩
    obtain ⟨B, hB⟩ : ∃ B, B = R.2.begin n 0 [] := ⟨_, rfl⟩
    have hF := HF.out
    rw [← hB] at hto4 hF ⊢
    have HF2 := Lib.hid hF
    have HTO4 := Lib.hid hto4
    clear hto4 hB hF HF
    by_cases e1 : B.1 = 0
    · rw [e1]
      have E1 := Lib.hid e1
      clear e1
      obtain ⟨S4, k1, k2, k3, k4⟩ := HTO4.out
      have hg4 := k3.heap HG3.out (fun e => by have := J1.out.lt _ e; omega)
      have HG4 := Lib.hid hg4
      have K1 := Lib.hid k1
      have K2 := Lib.hid k2
      have K3 := Lib.hid k3
      clear k1 k2 k3 k4 hg4
      obtain ⟨iS, hiS, hzS, hsS, _⟩ := info_parts infoS
      go_wp2_with (first
        | (refine wpList_load0 HG4.out Try.underlying71 rfl sizeBook rfl rfl (x := .tmp 7) rfl rfl ?_)
        | (refine wpList_sliceOne rfl rfl rfl Try.underlying51 hiS hzS hsS (by decide) (by decide) (fillS none 0 0) ?_)
        | (refine wpList_val rfl (exec_build rfl (builtWal d n 0 1 _ 1 1)) ?_; refine halted ?_))
      unfold Halted
      have hz4 := K3.out.size
      go_wp2
      go_ret2
      rw [HF2.out]
      have hz3 := HU3.out.size
      have hz2 := J3.out.size
      refine .inr ⟨E1.out, w4.heap.size + 1, by omega, rfl, S4, ⟨(K1.out.updNo (((Upd.refl NoS w4).alloc _).alloc _)), fun e => by have := K1.out.lt _ e; omega, Wl.fresh_ok hn1 hn2, _, heap_new' (by simp), [.slice none 0 0], ?_, ?_, ?_⟩, ?_, ?_⟩
      · exact ⟨rfl, .inr ⟨w4.heap.size, 0, 1, #[.slice none 0 0], (0, 0), rfl, Nat.le_refl 1, by unfold maxLen; decide, heap_old (heap_new _ _), rfl⟩⟩
      · intro k hk e
        obtain rfl : k = w4.heap.size := (Option.some.inj hk).symm
        exact e.elim (fun e => Nat.lt_irrefl _ (K1.out.lt _ e)) (fun e => by omega)
      · rintro (_ | i) v l hv hl
        · cases hv
          cases hl
          exact ⟨Rd.nil _ _ _, fun k hk => by cases hk⟩
        · cases hl
      · intro k hk
        rcases K2.out k hk with h1 | h1
        · exact (J2.out k h1).imp id (fun h => h.1)
        · exact .inr (by have := h1.1; omega)
      · refine Upd.alloc (Upd.alloc ?_ _) _
        refine (((J3.out.trNo HU3.out).trans K3.out (fun k hk e => (J2.out k e).elim id (fun h => absurd h.1 (by omega)))).mono (fun k _ h => .inl h))
    · have hne : (B.1 == 0) = false := by simpa using e1
      have E1 := Lib.hid e1
      clear e1
      go_wp2
      go_ret2
      rw [HF2.out]
      exact .inl ⟨E1.out, rfl, DskTo.step HI.out J2.out J3.out J4.out (HTO4.out.of2 J1.out HU3.out)⟩
  · rw [if_neg e0] at hF
    have hne : (R.1 == 0) = false := by simpa using e0
    have HF := Lib.hid hF
    have E0 := Lib.hid e0
    clear e0 hF
    go_wp2
    go_ret2
    rw [HF.out]
    exact .inl ⟨E0.out, rfl, HTO.out⟩
end Go.Proofs.Ytomgdfoahfhijaa
