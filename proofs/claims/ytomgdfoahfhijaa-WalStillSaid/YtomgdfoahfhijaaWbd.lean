/- wal: stands. -/
import Derived.Test.YtomgdfoahfhijaaWbc
import Derived.Test.YtomgdfoahfhijaaGrn
set_option linter.unusedVariables false
set_option linter.unusedSimpArgs false
namespace Go.Proofs.Ytomgdfoahfhijaa
open Go.RowKit
attribute [local go_sem] Oper.semAt_some

/-- Which entry stands in a field from a sector on. -/
def sizeAt (s : List UInt8) : Nat := beN ((s.drop 12).take 2)
def allOf (f : List (List UInt8)) (at_ many : Nat) : List UInt8 := ((f.drop at_).take many).flatMap (fun s => s.drop 16)
def standsOf (turn : Int) (f : List (List UInt8)) (at_ number : Nat) : Option (List UInt8) :=
  match f[at_]? with
  | none => none
  | some s =>
    if sectorsOf (sizeAt s) = 0 ∨ (f.length : Int) - at_ < sectorsOf (sizeAt s) then none
    else if (leavesOf turn number (sizeAt s) ((allOf f at_ (sectorsOf (sizeAt s)).toNat).take (sizeAt s))).map Subtype.val = (f.drop at_).take (sectorsOf (sizeAt s)).toNat then some ((allOf f at_ (sectorsOf (sizeAt s)).toNat).take (sizeAt s))
    else none
def IsField (w : World) (v : Value) (f : List (List UInt8)) : Prop := Rd w 80 64 v f.length (f.flatMap bvs) ∧ ∀ s ∈ f, s.length = 64
theorem length_flat {f : List (List UInt8)} (h : ∀ s ∈ f, s.length = 64) : (f.flatMap bvs).length = f.length * 64 := by
  induction f with
  | nil => rfl
  | cons s f ih =>
    rw [List.flatMap_cons, List.length_append, ih (fun x hx => h x (List.mem_cons_of_mem _ hx)), length_bvs, h s (List.mem_cons_self ..), List.length_cons]
    omega
theorem field_get : ∀ {f : List (List UInt8)}, (∀ s ∈ f, s.length = 64) → ∀ {i : Nat} {s : List UInt8}, f[i]? = some s → ((f.flatMap bvs).drop (i * 64)).take 64 = bvs s
  | [], _, i, s, hs => by simp at hs
  | t :: f, h, 0, s, hs => by
    cases hs
    rw [Nat.zero_mul, List.drop_zero, List.flatMap_cons, List.take_append_of_le_length (by simp [h t (List.mem_cons_self ..)]), List.take_of_length_le (by simp [h t (List.mem_cons_self ..)])]
  | t :: f, h, i + 1, s, hs => by
    rw [List.flatMap_cons, show (i + 1) * 64 = (bvs t).length + i * 64 by rw [length_bvs, h t (List.mem_cons_self ..)]; omega, ← List.drop_drop, List.drop_left]
    exact field_get (fun x hx => h x (List.mem_cons_of_mem _ hx)) (by simpa using hs)
theorem Rd.elem {w : World} {e g o c N i j : Nat} {xs ys : List Value} (h : Rd w e 64 (.slice (some ⟨g, o, none⟩) N c) N xs) (hi : i < N) (hy : (xs.drop (i * 64)).take 64 = ys) (hj : j ≤ 64) : Rd w e 1 (.slice (some ⟨g, o + i * 64 + j, none⟩) (64 - j) (64 - j)) (64 - j) (ys.drop j) := by
  obtain ⟨h1, ⟨h2, _⟩ | ⟨g', o', c', cur, fr, hv, hn, hm, hh, ht⟩⟩ := h
  · cases h2
  · cases hv
    have hxl : xs.length = N * 64 := h1
    have hyl : ys.length = 64 := by rw [← hy, List.length_take, List.length_drop]; omega
    refine ⟨by rw [List.length_drop, hyl]; omega, .inr ⟨g, o + i * 64 + j, 64 - j, cur, fr, rfl, Nat.le_refl _, by unfold maxLen; omega, hh, ?_⟩⟩
    rw [Nat.mul_one, ← hy, ← ht, List.drop_take, List.drop_drop, List.drop_take (i := i * 64 + j), List.drop_drop, List.take_take, show min (64 - j) (N * 64 - (i * 64 + j)) = 64 - j by omega]
    congr 2
    omega
def StPost (w w' : World) (e : Ending) : Option (List UInt8) → Prop
  | none => e = .returned (.tuple #[.slice none 0 0, .bool false])
  | some l => ∃ a c, e = .returned (.tuple #[.slice a l.length c, .bool true]) ∧ Rd w' 5 1 (.slice a l.length c) l.length (bvs l) ∧ (∀ k, (Value.slice a l.length c).ownBlock = some k → w.heap.size ≤ k) ∧ l.length ≤ 40000
theorem results_cells2 {P : Program} {fn : Func} {p q : Tmp} {ty ty' : TypeId} (h : fn.results = #[.cell p ty, .cell q ty']) (tmps : Array Value) (w : World) {a b : Addr} {v v' : Value} (hp : tmps.getD p undef = .pointer (some a)) (hq : tmps.getD q undef = .pointer (some b))
    (h1 : (loadVar ty a).run P w = .ok v w) (h2 : (loadVar ty' b).run P w = .ok v' w) : (results fn tmps).run P w = .ok (.tuple #[v, v']) w := by
  have hp' : tmps[p]?.getD undef = .pointer (some a) := by simpa using hp
  have hq' : tmps[q]?.getD undef = .pointer (some b) := by simpa using hq
  simp [results, h, hp', hq', asAddr, h1, h2]
theorem run_loadVar_slice {w : World} {g : Nat} {a : Option Addr} {n c : Nat} {t : TypeId} {fr : Nat × Nat} (h : w.heap[g]? = some (.cells #[.slice a n c] t fr)) : (loadVar 35 ⟨g, 0, none⟩).run Try.prog w = .ok (.slice a n c) w := by
  have hc := cell_at h 0
  simp only [List.getElem?_toArray, List.getElem?_cons_zero] at hc
  simp [go_sem, hc]
theorem run_loadVar_bool {w : World} {g : Nat} {b : Bool} {t : TypeId} {fr : Nat × Nat} (h : w.heap[g]? = some (.cells #[.bool b] t fr)) : (loadVar 4 ⟨g, 0, none⟩).run Try.prog w = .ok (.bool b) w := by
  have hc := cell_at h 0
  simp only [List.getElem?_toArray, List.getElem?_cons_zero] at hc
  simp [go_sem, hc]
/-- Between two rounds of stands. -/
def StI (w5 : World) (m at_ : Nat) (f : List (List UInt8)) (pre : List Bk) (W : World) : Prop :=
  Upd (fun j => j = m + 2) w5 W ∧ W.heap[m + 2]? = some (.cells #[.int .i64 ((at_ + pre.length : Nat) : Int)] 3 (0, 0)) ∧ pre.map Subtype.val = (f.drop at_).take pre.length
def StX (w5 : World) (m at_ : Nat) (f : List (List UInt8)) (c : Code) (pre : List Bk) (W : World) : Prop :=
  c = .ret ∧ Upd (fun j => j = m + 2 ∨ j = m + 3 ∨ j = m + 4) w5 W ∧ W.heap[m + 3]? = some (.cells #[.slice none 0 0] 35 (0, 0)) ∧ W.heap[m + 4]? = some (.cells #[.bool false] 4 (0, 0)) ∧ pre.map Subtype.val ≠ (f.drop at_).take pre.length
theorem onlyN_normal {K : Act → World → Prop} {a : Act} {w : World} (h : K a w) : OnlyN K .normal a w := h
theorem post_name {Q : Exit → Act → World → Prop} {e : Exit} {a : Act} {w : World} (h : ∀ W, W = w → Q e a W) : Q e a w := h w rfl
theorem door_nameM {F : Fence} {n : Nat} {P : Program} {fn : Func} {R : Ending → World → Prop} {e : Exit} {a : Act} {w : World} (h : ∀ W, W = w → bodyPostM F n P fn R e a W) : bodyPostM F n P fn R e a w := h w rfl
set_option maxRecDepth 100000 in
set_option maxHeartbeats 4000000 in
theorem walStands (w : World) (d : Nat) (n turn : Int) (ht0 : 0 ≤ turn) (ht : turn < 4294967296) (g o c : Nat) (f : List (List UInt8)) (hf : IsField w (.slice (some ⟨g, o, none⟩) f.length c) f) (hfl : f.length ≤ 1000) (at_ number : Nat) (ha : at_ ≤ 1000) (hnum : number ≤ 1000) :
    Calls Try.prog 48 #[bookV d n turn, .slice (some ⟨g, o, none⟩) f.length c, .int .i64 at_, .int .i64 number] w fun e w' => Upd NoS w w' ∧ StPost w w' e (standsOf turn f at_ number) := by
  have HF := Lib.hid hf
  clear hf
  unfold bookV
  refine calls_of_wp_marks (fn := Try.f48) Try.func48 rfl ?_
  simp only [Try.ntmps48, List.size_toArray, List.length_cons, List.length_nil, Nat.reduceAdd, Nat.reduceSub, Array.replicate_succ, Array.replicate_zero, List.push_toArray, List.append_toArray, List.nil_append, List.cons_append]
  obtain ⟨m, hm⟩ : ∃ m, m = w.heap.size := ⟨_, rfl⟩
  by_cases hat : at_ < f.length
  · have hat' : (at_ : Int) < f.length := by omega
    go_wp2_with (go_at_call 68; refine halted ?_)
    unfold Halted
    refine calls_name ?_
    intro W0 hW0
    have hu0 : Upd NoS w W0 := by rw [hW0]; exact (((((Upd.refl NoS w).alloc _).alloc _).alloc _).alloc _).alloc _
    have hz0 : W0.heap.size = m + 5 := by rw [hW0, hm]; simp
    have hg4 : W0.heap[m]? = some (.cells (bookC d n turn) 71 (0, 0)) := by rw [hW0, hm]; exact heap_old (heap_old (heap_old (heap_old (heap_new _ _))))
    have hg5 : W0.heap[m + 1]? = some (.cells #[.slice (some ⟨g, o, none⟩) f.length c] 83 (0, 0)) := by rw [hW0, hm]; exact heap_old (heap_old (heap_old (heap_new' (by simp))))
    have hg6 : W0.heap[m + 2]? = some (.cells #[.int .i64 at_] 3 (0, 0)) := by rw [hW0, hm]; exact heap_old (heap_old (heap_new' (by simp)))
    have hg8 : W0.heap[m + 3]? = some (.cells #[.slice none 0 0] 35 (0, 0)) := by rw [hW0, hm]; exact heap_old (heap_new' (by simp))
    have hg9 : W0.heap[m + 4]? = some (.cells #[.bool false] 4 (0, 0)) := by rw [hW0, hm]; exact heap_new' (by simp)
    rw [← hm]
    clear hW0
    have HM := Lib.hid hm
    clear hm
    obtain ⟨s, hs⟩ : ∃ s, f[at_]? = some s := ⟨_, List.getElem?_eq_getElem hat⟩
    have h64 := HF.out.2 s (List.mem_of_getElem? hs)
    have hrs : Rd W0 80 1 (.slice (some ⟨g, o + at_ * 64 + 12, none⟩) 52 52) 52 (bvs (s.drop 12)) := by
      have := (HF.out.1.updNo hu0).elem (j := 12) hat (field_get HF.out.2 hs) (by decide)
      rwa [show (bvs s).drop 12 = bvs (s.drop 12) by simp [bvs, List.map_drop]] at this
    have h52 : (s.drop 12).length = 52 := by simp [h64]
    refine (octRead W0 80 _ (s.drop 12) (by rw [h52]; exact hrs) (by rw [h52]; decide)).mono ?_
    rintro e1 w1 ⟨r, rfl, hr1, hr2, hu1⟩
    have R1 := Lib.hid hr2
    have U1 := Lib.hid hu1
    have U0 := Lib.hid hu0
    have G4 := Lib.hid hg4
    have G5 := Lib.hid hg5
    have G6 := Lib.hid hg6
    have G8 := Lib.hid hg8
    have G9 := Lib.hid hg9
    clear hr2 hu1 hu0 hg4 hg5 hg6 hg8 hg9 hrs
    go_wp2_with (go_at_call 73; refine halted ?_)
    unfold Halted
    refine (octU16 w1 r (s.drop 12) R1.out (by rw [h52]; decide) (by rw [h52]; decide)).mono ?_
    rintro e2 w2 ⟨rfl, _, hu2⟩
    rw [show beN ((s.drop 12).take 2) = sizeAt s from rfl]
    have hsz : sizeAt s < 65536 := by
      unfold sizeAt
      have h1 := beN_lt ((s.drop 12).take 2)
      rw [show ((s.drop 12).take 2).length = 2 by simp [h64]] at h1
      exact h1
    have hu02 : Upd NoS W0 w2 := U1.out.trans hu2 (fun k hk e => by rw [show k = r from e] at hk; omega)
    have HST : Hid (standsOf turn f at_ number = if sectorsOf (sizeAt s) = 0 ∨ (f.length : Int) - at_ < sectorsOf (sizeAt s) then none
      else if (leavesOf turn number (sizeAt s) ((allOf f at_ (sectorsOf (sizeAt s)).toNat).take (sizeAt s))).map Subtype.val = (f.drop at_).take (sectorsOf (sizeAt s)).toNat then some ((allOf f at_ (sectorsOf (sizeAt s)).toNat).take (sizeAt s))
      else none) := Lib.hid (by unfold standsOf; rw [hs])
    obtain ⟨sz, hsze⟩ : ∃ sz, sz = sizeAt s := ⟨_, rfl⟩
    rw [← hsze] at hsz HST ⊢
    have U2 := Lib.hid hu02
    clear hu2 hsze hu02 h52
    go_wp2_with (go_at_call 10; refine (walSectors _ _).mono ?_; rintro e w' ⟨rfl, rfl⟩; refine halted ?_)
    unfold Halted
    rename World => W3
    obtain ⟨mk, hmk⟩ : ∃ mk : Nat, sectorsOf sz = (mk : Int) := ⟨(sectorsOf sz).toNat, by unfold sectorsOf; split <;> (try split) <;> omega⟩
    have hmk2 : mk = 0 ∨ (1 ≤ mk ∧ sz ≤ 40000 ∧ sz ≤ 48 * mk ∧ (mk : Int) ≤ 834) := by unfold sectorsOf at hmk; split at hmk <;> (try split at hmk) <;> omega
    have q6 := cell_at (U2.out.heap G6.out id) 0
    have q5 := cell_at (U2.out.heap G5.out id) 0
    simp only [List.getElem?_toArray, List.getElem?_cons_zero] at q5 q6
    rw [hmk] at HST ⊢
    have HMK := Lib.hid hmk
    clear hmk
    by_cases hbad : mk = 0 ∨ f.length < at_ + mk
    · have HST' : Hid (standsOf turn f at_ number = none) := Lib.hid (by rw [HST.out, if_pos (by omega)])
      have HU3 := Lib.hid (U0.out.tr U2.out)
      have HG8 := Lib.hid (U2.out.heap G8.out id)
      have HG9 := Lib.hid (U2.out.heap G9.out id)
      by_cases h0 : mk = 0
      · subst h0
        have q8 := cell_at HG8.out 0
        have q9 := cell_at HG9.out 0
        have f8 := free_at HG8.out 0
        have f9 := free_at HG9.out 0
        simp only [List.getElem?_toArray, List.getElem?_cons_zero] at q8 q9
        go_wp2
        refine door_nameM ?_
        intro W' hW0
        have hW' : W' = (W3.setCell ⟨m + 3, 0, none⟩ (.slice none 0 0)).setCell ⟨m + 4, 0, none⟩ (.bool false) := hW0
        clear hW0
        have hu : Upd (fun j => j = m + 3 ∨ j = m + 4) W3 W' := by rw [hW']; exact ((Upd.refl (fun j => j = m + 3 ∨ j = m + 4) W3).setCell ⟨m + 3, 0, none⟩ _ (fun _ => .inl rfl)).setCell ⟨m + 4, 0, none⟩ _ (fun _ => .inr rfl)
        have hg3' : W'.heap[m + 3]? = some (.cells #[.slice none 0 0] 35 (0, 0)) := by
          rw [hW', heap_set_ne (heap_set HG8.out 0 _) (show m + 3 ≠ m + 4 by omega)]; rfl
        have hg4' : W'.heap[m + 4]? = some (.cells #[.bool false] 4 (0, 0)) := by
          rw [hW', heap_set (heap_set_ne HG9.out (show m + 4 ≠ m + 3 by omega) _) 0]; rfl
        clear hW'
        refine ⟨_, results_cells2 rfl _ _ (a := ⟨m + 3, 0, none⟩) (b := ⟨m + 4, 0, none⟩) rfl rfl (run_loadVar_slice hg3') (run_loadVar_bool hg4'), HU3.out.trans hu (fun j hj e => by have := HM.out; rcases e with e | e <;> omega), ?_⟩
        rw [HST'.out]
        rfl
      · have h1 : (f.length : Int) - at_ < mk := by omega
        have h2 : ((mk : Int) == 0) = false := by simp; omega
        have q8 := cell_at HG8.out 0
        have q9 := cell_at HG9.out 0
        have f8 := free_at HG8.out 0
        have f9 := free_at HG9.out 0
        simp only [List.getElem?_toArray, List.getElem?_cons_zero] at q8 q9
        go_wp2
        refine door_nameM ?_
        intro W' hW0
        have hW' : W' = (W3.setCell ⟨m + 3, 0, none⟩ (.slice none 0 0)).setCell ⟨m + 4, 0, none⟩ (.bool false) := hW0
        clear hW0
        have hu : Upd (fun j => j = m + 3 ∨ j = m + 4) W3 W' := by rw [hW']; exact ((Upd.refl (fun j => j = m + 3 ∨ j = m + 4) W3).setCell ⟨m + 3, 0, none⟩ _ (fun _ => .inl rfl)).setCell ⟨m + 4, 0, none⟩ _ (fun _ => .inr rfl)
        have hg3' : W'.heap[m + 3]? = some (.cells #[.slice none 0 0] 35 (0, 0)) := by
          rw [hW', heap_set_ne (heap_set HG8.out 0 _) (show m + 3 ≠ m + 4 by omega)]; rfl
        have hg4' : W'.heap[m + 4]? = some (.cells #[.bool false] 4 (0, 0)) := by
          rw [hW', heap_set (heap_set_ne HG9.out (show m + 4 ≠ m + 3 by omega) _) 0]; rfl
        clear hW'
        refine ⟨_, results_cells2 rfl _ _ (a := ⟨m + 3, 0, none⟩) (b := ⟨m + 4, 0, none⟩) rfl rfl (run_loadVar_slice hg3') (run_loadVar_bool hg4'), HU3.out.trans hu (fun j hj e => by have := HM.out; rcases e with e | e <;> omega), ?_⟩
        rw [HST'.out]
        rfl
    · have h1 : (mk : Int) ≤ f.length - at_ := by omega
      have h2 : ((mk : Int) == 0) = false := by simp; omega
      have h3 : at_ + mk ≤ f.length := by omega
      obtain ⟨hcN, hcM⟩ : f.length ≤ c ∧ c ≤ maxLen := by obtain ⟨_, _, hv, h1, h2, _⟩ := HF.out.1.any; cases hv; exact ⟨h1, h2⟩
      have h4 : (0 : Int) ≤ at_ + mk ∧ (at_ : Int) + mk ≤ c := by omega
      have h5 : ¬ c = at_ := by omega
      go_wp2
      rw [show at_ + mk - at_ = mk by omega]
      obtain ⟨cur, fr, hgc, hcut⟩ : ∃ cur fr, w.heap[g]? = some (.cells cur 80 fr) ∧ (cur.toList.drop o).take (f.length * 64) = f.flatMap bvs := by
        obtain ⟨_, ⟨h1, _⟩ | ⟨g', o', c', cur, fr, hv, _, _, hh, ht⟩⟩ := HF.out.1
        · cases h1
        · cases hv; exact ⟨cur, fr, hh, ht⟩
      have hcs : o + f.length * 64 ≤ cur.size := by
        have := congrArg List.length hcut
        have hL : cur.toList.length = cur.size := Array.length_toList
        rw [List.length_take, List.length_drop, length_flat HF.out.2, hL] at this
        have h8 := Nat.min_le_right (f.length * 64) (cur.size - o)
        rw [this] at h8
        clear h1 h2 h4 h5
        omega
      have hel : ∀ i s', f[i]? = some s' → ((cur.toList.drop (o + i * 64)).take 64).toArray = (bvs s').toArray := fun i s' hi => by
        have hlt := (List.getElem?_eq_some_iff.1 hi).1
        have := field_get HF.out.2 hi
        rw [← hcut, List.drop_take, List.drop_drop, List.take_take, show min 64 (f.length * 64 - i * 64) = 64 by omega] at this
        rw [this]
      have HGC := Lib.hid ((U0.out.tr U2.out).heap hgc id)
      have hgm : g < m := by rw [HM.out]; exact lt_of_heap hgc
      have HEL := Lib.hid hel
      have hmk3 : 1 ≤ mk ∧ sz ≤ 40000 ∧ sz ≤ 48 * mk ∧ mk ≤ 834 := by omega
      clear hgc hel hcut hmk2 q5 q6 hbad h1 h2 h4 h5
      go_loopw [48, 13] (fun kv av wr => ∃ (k : Nat) (a' : Option Addr) (c' : Nat), k ≤ mk ∧ kv = .int .i64 k ∧ av = .slice a' (48 * k) c' ∧ wr.ownsRow W3.heap.size 5 1 (.slice a' (48 * k) c') (48 * k) (bvs (allOf f at_ k)) ∧ Upd NoS W3 wr) (fun kv _ _ => mk - (intOf kv).toNat)
      case atStart => exact ⟨0, none, 0, by omega, rfl, rfl, World.ownsRow_nil _ _ _ _, Upd.refl _ _⟩
      case round =>
        obtain ⟨k, a', c', hk, rfl, rfl, hown, hur⟩ := hrel
        have HOWN := Lib.hid hown
        have HUR := Lib.hid hur
        clear hown hur
        by_cases hlt : k < mk
        · have hlt' : (k : Int) < mk := by omega
          obtain ⟨s', hs'⟩ : ∃ s', f[at_ + k]? = some s' := ⟨_, List.getElem?_eq_getElem (by omega)⟩
          have h64' := HF.out.2 s' (List.mem_of_getElem? hs')
          have e1 : o + at_ * 64 + k * 64 = o + (at_ + k) * 64 := by omega
          have HL : Hid (((cur.toList.drop (o + at_ * 64 + k * 64)).take 64).toArray = (bvs s').toArray) := Lib.hid (by rw [e1]; exact HEL.out (at_ + k) s' hs')
          clear e1
          go_wp2_with (first
            | (refine wpList_loadA (off := o + at_ * 64 + k * 64) (HUR.out.heap HGC.out id) Try.underlying80 rfl sizeBlock (by omega) rfl rfl rfl ?_; rw [HL.out])
            | (refine wpList_store0 (heap_new _ _) sizeBlock (by simp [h64']) (by rfl) (bvs_one s') rfl (x := .tmp 15) (y := .tmp 51) rfl rfl rfl ?_; intro w4 hg4 hu4 hs4; refine halted ?_))
          unfold Halted
          have hu14 : Upd NoS wr w4 := ((Upd.refl NoS wr).alloc _).trans hu4 (fun k hk e => absurd hk (by rw [show k = wr.heap.size from e]; exact Nat.lt_irrefl _))
          have hz4 := hu14.size
          have hrs' : Rd w4 80 1 (.slice (some ⟨wr.heap.size, 16, none⟩) 48 48) 48 (bvs (s'.drop 16)) := by
            refine ⟨by simp [h64'], .inr ⟨wr.heap.size, 16, 48, (bvs s').toArray, (0, 0), rfl, Nat.le_refl _, by unfold maxLen; decide, hg4, ?_⟩⟩
            rw [show (bvs s').toArray.toList.drop 16 = bvs (s'.drop 16) by simp [bvs, List.map_drop], List.take_of_length_le (by simp [h64'])]
          obtain ⟨i0, hi, hz0, hz1, hz2⟩ := info_parts infoB
          obtain ⟨a7, c7, w7, hrun7, ho7, hgr7⟩ := run_append_rd (P := Try.prog) (t := 35) (ty := 35) Try.underlying35 hi hz0 hz1 hz2 rfl (by decide) (own_upd HOWN.out hu14 (fun _ _ h => h)) hrs' (bvs_one _) (by unfold maxLen; omega) (by omega) (by have := HUR.out.size; omega)
          have hall : bvs (allOf f at_ k) ++ bvs (s'.drop 16) = bvs (allOf f at_ (k + 1)) := by
            rw [← bvs_append]
            congr 1
            unfold allOf
            rw [List.take_succ_eq_append_getElem (by rw [List.length_drop]; omega), List.flatMap_append]
            congr 1
            have : (f.drop at_)[k]'(by rw [List.length_drop]; omega) = s' := by
              have := hs'
              rw [List.getElem?_eq_some_iff] at this
              obtain ⟨_, h⟩ := this
              rw [List.getElem_drop]
              exact h
            rw [this]
            simp
          rw [hall] at ho7
          have H7 := Lib.hid ho7
          have U7 := Lib.hid ((HUR.out.tr hu14).grown hgr7 (fun j hj hlt => absurd hlt (by have := own_ge HOWN.out j hj; omega)))
          have HRUN7 := Lib.hid hrun7
          clear hi hz0 hz1 hz2 hrs' hrun7 ho7 hgr7 hall i0 hg4 hu4 hs4 hu14 hz4
          go_wp2_with (refine wpList_app rfl _ _ _ rfl rfl rfl HRUN7.out ?_)
          have HK1 := Lib.hid (show 48 * k + 48 = 48 * (k + 1) by omega)
          exact ⟨⟨k + 1, a7, c7, by omega, by go_num, by rw [HK1.out], by rw [← HK1.out]; exact H7.out, U7.out⟩, by simp [intOf]; omega⟩
        · obtain rfl : k = mk := by omega
          obtain ⟨ga, c'', hsv, hga, hc1, hc2⟩ := own_pos HOWN.out (by omega)
          cases hsv
          have h6 : (sz : Int) ≤ c' := by omega
          have h7 : sz ≤ c' := by omega
          have q4 := cell_at (HUR.out.heap (U2.out.heap G4.out id) id) 2
          have q6 := cell_at (HUR.out.heap (U2.out.heap G6.out id) id) 0
          simp only [bookC, List.getElem?_toArray, List.getElem?_cons_zero, List.getElem?_cons_succ] at q4 q6
          have hnm : (number : Int) % 4294967296 = number := by omega
          go_wp2_with (go_at_call 53; refine halted ?_)
          unfold Halted
          obtain ⟨l, hl⟩ : ∃ l, l = (allOf f at_ k).take sz := ⟨_, rfl⟩
          have hal : (allOf f at_ k).length = 48 * k := by simpa using HOWN.out.1
          have hll : l.length = sz := by rw [hl, List.length_take, hal]; omega
          have hrl : Rd wr 5 1 (.slice (some ⟨ga, 0, none⟩) sz sz) sz (bvs l) := by
            have h8 := (Rd.of_own HOWN.out).take (n := sz) (by omega)
            obtain ⟨x1, ⟨x2, _⟩ | ⟨g2, o2, c2, cur2, fr2, hv2, x3, x4, x5, x6⟩⟩ := h8
            · cases x2
            · cases hv2
              refine ⟨by rw [length_bvs, hll, Nat.mul_one], .inr ⟨ga, 0, sz, cur2, fr2, rfl, Nat.le_refl _, by omega, x5, ?_⟩⟩
              rw [x6, hl]
              simp [bvs, List.map_take]
          have HRL := Lib.hid hrl
          have HLL := Lib.hid hll
          have HLE := Lib.hid hl
          clear hrl hal hl hll q4 q6
          refine (walLeaves wr turn number (some ⟨ga, 0, none⟩) sz sz).mono ?_
          rintro e5 w5 ⟨rfl, hw5⟩
          rw [← alloc3] at hw5
          have hu5 : Upd NoS wr w5 := by rw [hw5]; exact alloc3_upd _ _ _ _
          have hg51 : w5.heap[wr.heap.size + 2]? = some (.cells #[.slice (some ⟨ga, 0, none⟩) sz sz] 35 (0, 0)) := by rw [hw5]; exact heap_new' (by simp)
          have hg52 : w5.heap[wr.heap.size]? = some (.cells #[.int .u32 turn] 30 (0, 0)) := by rw [hw5]; exact heap_old (heap_old (heap_new _ _))
          have hg53 : w5.heap[wr.heap.size + 1]? = some (.cells #[.int .u32 number] 30 (0, 0)) := by rw [hw5]; exact heap_old (heap_new' (by simp))
          have hz5 : w5.heap.size = wr.heap.size + 3 := by rw [hw5]; exact alloc3_size _ _ _ _
          clear hw5
          go_wp2
          have hlt5 : l.length ≤ 40000 := by rw [HLL.out]; omega
          have htl := leavesTells w5 turn number ht0 ht (by omega) (by omega) 5 (.slice (some ⟨ga, 0, none⟩) sz sz) l (by rw [HLL.out]; exact HRL.out.updNo hu5) hlt5 (wr.heap.size + 2) wr.heap.size (wr.heap.size + 1) hg51 hg52 hg53
          rw [HLL.out] at htl
          have hxl : (leavesOf turn number sz l).length = k := by
            have := length_leavesOf turn number sz l
            rw [HLL.out] at this
            have h9 := HMK.out
            unfold sectorsOf at h9
            rw [this]
            split <;> (split at h9 <;> (try split at h9)) <;> omega
          obtain ⟨xs, hxs⟩ : ∃ xs, xs = leavesOf turn number sz l := ⟨_, rfl⟩
          rw [← hxs] at htl hxl
          have HX := Lib.hid hxs
          have hu3r : Upd NoS W0 w5 := (U2.out.tr HUR.out).tr hu5
          have U05 := Lib.hid hu3r
          have hm5 : m + 5 ≤ w5.heap.size := by have := hu3r.size; omega
          have hga2 : m + 5 ≤ ga := by have := U2.out.size; omega
          have hgaw : ga < wr.heap.size := by have := HRL.out.lt ga rfl; omega
          have hwr5 : m + 5 ≤ wr.heap.size := by omega
          have HGC5 := Lib.hid ((HUR.out.tr hu5).heap HGC.out id)
          have HG5 := Lib.hid (hu3r.heap G5.out id)
          have HG85 := Lib.hid (hu3r.heap G8.out id)
          have HG95 := Lib.hid (hu3r.heap G9.out id)
          have hg65 := hu3r.heap G6.out id
          have HRL5 := Lib.hid (HRL.out.updNo hu5)
          clear hu5 hg51 hg52 hg53 hxs hu3r
          refine wp_rangeFunc rfl (by kernel_rfl) htl (fun j hj => by rcases hj with rfl | rfl | rfl | hj <;> first | omega | (obtain rfl : ga = j := Option.some.inj hj; omega)) (fun x => rfl) (StI w5 m at_ f) (StX w5 m at_ f)
            (fun s W W' row h hg hr => ⟨updOwn s W W' row h.1 hg hr, heapOwn (cs := fun s => #[.int .i64 ((at_ + s.length : Nat) : Int)]) s W W' row h.2.1 hg hr, h.2.2⟩)
            (fun c s W W' row h hg hr => ⟨h.1, updOwn s W W' row h.2.1 hg hr, heapOwn (cs := fun _ => #[.slice none 0 0]) s W W' row h.2.2.1 hg hr, heapOwn (cs := fun _ => #[.bool false]) s W W' row h.2.2.2.1 hg hr, h.2.2.2.2⟩)
            ⟨Upd.refl _ _, by simpa using hg65, by simp⟩
            (fun x a' W => ∃ gb, w5.heap.size ≤ gb ∧ W.heap[gb]? = some (.cells (bvs x.1).toArray 80 (0, 0)) ∧ a' = { tmps := #[Value.agg #[Value.pointer (some { block := d, off := 0 }), Value.int IntKind.i64 n, Value.int IntKind.u32 turn], Value.slice (some { block := g, off := o }) f.length c, Value.int IntKind.i64 ↑at_, Value.int IntKind.i64 ↑number, Value.pointer (some { block := m, off := 0 }), Value.pointer (some { block := m + 1, off := 0 }), Value.pointer (some { block := m + 1 + 1, off := 0 }), undef, Value.pointer (some { block := m + 1 + 1 + 1, off := 0 }), Value.pointer (some { block := m + 1 + 1 + 1 + 1, off := 0 }), Value.pointer (some { block := r, off := 0 }), Value.int IntKind.i64 ↑sz, Value.int IntKind.i64 ↑k, Value.slice (some { block := ga, off := 0 }) sz sz, undef, u15, .pointer (some ⟨gb, 0, none⟩), Value.int IntKind.i64 ↑at_, Value.slice (some { block := g, off := o }) f.length c, Value.int IntKind.i64 ↑f.length, Value.bool false, Value.slice (some { block := g, off := o }) f.length c, Value.int IntKind.i64 ↑at_, Value.pointer (some { block := g, off := o + at_ * 64 }), Value.slice (some { block := g, off := o + at_ * 64 + 12 }) 52 52, Value.pointer (some { block := r, off := 0 }), Value.pointer (some { block := r, off := 0 }), Value.int IntKind.u16 ↑sz, Value.int IntKind.i64 ↑sz, Value.int IntKind.i64 ↑sz, Value.int IntKind.i64 ↑k, Value.int IntKind.i64 ↑k, Value.bool false, Value.bool false, Value.int IntKind.i64 ↑k, Value.slice (some { block := g, off := o }) f.length c, Value.int IntKind.i64 ↑f.length, Value.int IntKind.i64 ↑at_, Value.int IntKind.i64 (↑f.length - ↑at_), Value.bool (decide ((f.length : Int) - (at_ : Int) < (k : Int))), Value.bool (decide ((f.length : Int) - (at_ : Int) < (k : Int))), Value.slice (some { block := g, off := o }) f.length c, Value.int IntKind.i64 ↑at_, Value.int IntKind.i64 ↑at_, Value.int IntKind.i64 ↑k, Value.int IntKind.i64 (↑at_ + ↑k), Value.slice (some { block := g, off := o + at_ * 64 }) k (c - at_), Value.int IntKind.i64 ↑k, Value.int IntKind.i64 ↑k, Value.bool false, u50, u51, u52, u53, u54, u55, Value.slice (some { block := ga, off := 0 }) (48 * k) c', Value.int IntKind.i64 ↑sz, Value.int IntKind.i64 ↑sz, Value.slice (some { block := ga, off := 0 }) sz sz, Value.pointer (some { block := m, off := 2 }), Value.int IntKind.u32 turn, Value.int IntKind.i64 ↑number, Value.int IntKind.u32 ↑number, Value.slice (some { block := ga, off := 0 }) sz sz, Value.func (Fn.func 74) #[] #[Value.pointer (some { block := wr.heap.size + 2, off := 0 }), Value.pointer (some { block := wr.heap.size, off := 0 }), Value.pointer (some { block := wr.heap.size + 1, off := 0 })], .agg (bvs x.1).toArray, undef, undef, undef, undef, undef, undef, undef, undef, undef], defers := [] })
            (fun x a' s W W' row h hg hr => by obtain ⟨g, h1, h2, h3⟩ := h; exact ⟨g, h1, heapOwn (cs := fun _ => (bvs x.1).toArray) s W W' row h2 hg hr, h3⟩) ?assign ?body ?done ?stop
          case assign =>
            rintro ll pre x W K' hI hK'
            simp only [encB]
            have HII := Lib.hid hI
            clear hI
            gi_wp2_with (refine wpListIn_store0 (heap_new _ _) sizeBlock (by simp [x.2]) (by rfl) (bvs_one x.1) rfl rfl (x := .tmp 16) (y := .tmp 66) rfl rfl rfl ?_; intro W3 hg3 hu3 hs3)
            have hu03 : Upd NoS W W3 := ((Upd.refl NoS W).alloc _).trans hu3 (fun k hk e => absurd hk (by rw [show k = W.heap.size from e]; exact Nat.lt_irrefl _))
            obtain ⟨i1, i2, i3⟩ := HII.out
            have hBW := i1.size
            exact hK' _ _ (keepsOf hu03 (fun _ _ h => h.elim)) (stayOf hu03 (fun j hj => ⟨by rcases hj with rfl | rfl | rfl | hj <;> first | omega | (obtain rfl : ga = j := Option.some.inj hj; omega), id⟩)) ⟨i1.trNo hu03, hu03.heap i2 id, i3⟩ ⟨W.heap.size, hBW, hg3, rfl⟩
          case body =>
            rintro ll pre x a' W hl hr hI ⟨gb, hgb, hg, rfl⟩ hlen
            obtain ⟨i1, i2, i3⟩ := hI
            rw [hxl] at hlen
            have hidx : at_ + pre.length < f.length := by omega
            obtain ⟨s', hs'⟩ : ∃ s', f[at_ + pre.length]? = some s' := ⟨_, List.getElem?_eq_getElem hidx⟩
            have h64' := HF.out.2 s' (List.mem_of_getElem? hs')
            have hlo : o + (at_ + pre.length) * 64 + 64 ≤ cur.size := by omega
            have hel : ((cur.toList.drop (o + (at_ + pre.length) * 64)).take 64).toArray = (bvs s').toArray := HEL.out _ s' hs'
            have MK : Hid (∀ w', Upd NoS W w' → w'.cell? ⟨m + 1, 0, none⟩ = some (.slice (some ⟨g, o, none⟩) f.length c) ∧ w'.cell? ⟨m + 2, 0, none⟩ = some (.int .i64 ((at_ + pre.length : Nat) : Int)) ∧ w'.heap[g]? = some (.cells cur 80 fr) ∧ w'.heap[gb]? = some (.cells (bvs x.1).toArray 80 (0, 0))) :=
              Lib.hid fun w' hu => ⟨cell_at (hu.heap (i1.heap HG5.out (show ¬ (m + 1 = m + 2) by omega)) id) 0, cell_at (hu.heap i2 id) 0, hu.heap (i1.heap HGC5.out (show ¬ (g = m + 2) by omega)) id, hu.heap hg id⟩
            have g3 := i1.heap HG85.out (by omega)
            have g4 := i1.heap HG95.out (by omega)
            have I1 := Lib.hid i1
            have I2 := Lib.hid i2
            have I3 := Lib.hid i3
            have HG3 := Lib.hid g3
            have HG4 := Lib.hid g4
            have HEl := Lib.hid hel
            have htk : (f.drop at_).take (pre ++ [x]).length = (f.drop at_).take pre.length ++ [s'] := by
              have hl1 : pre.length < (f.drop at_).length := by rw [List.length_drop]; omega
              rw [List.length_append, List.length_singleton, List.take_succ_eq_append_getElem hl1]
              congr 2
              rw [List.getElem_drop]
              exact (List.getElem?_eq_some_iff.1 hs').2
            have HNX : Hid (s' = x.1 → (pre ++ [x]).map Subtype.val = (f.drop at_).take (pre ++ [x]).length) := Lib.hid fun e => by
              rw [htk, List.map_append, i3, e]; rfl
            have HNE : Hid (¬ s' = x.1 → (pre ++ [x]).map Subtype.val ≠ (f.drop at_).take (pre ++ [x]).length) := Lib.hid fun e h => by
              rw [htk, List.map_append, i3] at h
              have := List.append_cancel_left h
              simp at this
              exact e this.symm
            clear htk
            obtain ⟨idx, hidxe⟩ : ∃ idx, idx = at_ + pre.length := ⟨_, rfl⟩
            rw [← hidxe] at hidx hlo MK I2 HEl
            have HS' := Lib.hid hs'
            have hidx' : (idx : Int) < f.length := by omega
            have HIE := Lib.hid hidxe
            have hidx0 : idx ≤ 2000 := by omega
            clear i1 i2 i3 g3 g4 hel hs' hidxe hg
            gi_wp2
            refine wpIn_region_still (fun w' => Upd NoS W w') 5 1 [0, 1, 2, 3, 4] rfl (by kernel_rfl) rfl (by decide) (by kernel_rfl) (by kernel_rfl) (by kernel_rfl) (by kernel_rfl) (by kernel_rfl) ((Upd.refl _ _).drew) ?_
            simp only [List.take_succ_cons, List.take_zero, List.drop_succ_cons, List.drop_zero, pick, List.getElem?_cons_succ, List.getElem?_cons_zero, Nat.reduceBEq, List.contains_cons, List.contains_nil, Bool.or_self, Bool.or_false, Bool.or_true, Bool.true_or, Bool.false_or]
            iterate 3 (refine wpD_quiet ?_ (fun w' hS => ?_) ?_; rotate_left; (· obtain ⟨f0, f1, _, _⟩ := MK.out w' hS; go_simp; (try with_reducible rfl)); (try simp only [Act.put, List.setIfInBounds_toArray, List.set_cons_succ, List.set_cons_zero]))
            refine wpD_quiet (.agg (bvs s').toArray) (fun w' hS => (exec_loadA (off := o + idx * 64) (MK.out w' hS).2.2.1 Try.underlying80 rfl sizeBlock hlo rfl rfl).trans (by rw [HEl.out])) ?_
            simp only [Act.put, List.setIfInBounds_toArray, List.set_cons_succ, List.set_cons_zero]
            refine wpD_quiet _ (fun w' hS => exec_load0 (MK.out w' hS).2.2.2 Try.underlying80 rfl sizeBlock (by simp [x.2]) rfl rfl) ?_
            simp only [Act.put, List.setIfInBounds_toArray, List.set_cons_succ, List.set_cons_zero]
            refine wpD_nil ?_
            by_cases heq : s' = x.1
            · have hb : (s' == x.1) = true := by simpa using heq
              go_wp2_with (refine wpList_val rfl (exec_neq_block rfl rfl rfl h64' x.2) ?_; rw [hb])
              refine onlyN_normal ?_
              have q2 := cell_at I2.out 0
              have r2 := free_at I2.out 0
              simp only [List.getElem?_toArray, List.getElem?_cons_zero] at q2
              gi_wp2
              refine post_name (Q := ownPostG _ _ _ _ _ _) ?_
              intro W' hW0
              have hW' : W' = W.drew.setCell ⟨m + 2, 0, none⟩ (.int .i64 ((idx : Int) + 1)) := hW0
              clear hW0
              have hu : Upd (fun j => j = m + 2) W W' := by rw [hW']; exact (Upd.refl (fun j => j = m + 2) W).drew.setCell ⟨m + 2, 0, none⟩ _ (fun _ => rfl)
              have hg2 : W'.heap[m + 2]? = some (.cells #[.int .i64 ((at_ + (pre ++ [x]).length : Nat) : Int)] 3 (0, 0)) := by
                rw [hW', heap_set (show W.drew.heap[m + 2]? = _ from I2.out) 0, HIE.out]
                simp
                omega
              have hW5 := I1.out.size
              refine ⟨keepsOf hu (fun j o e _ hB => absurd hB (by rw [show j = m + 2 from e]; omega)), stayOf hu (fun j hj => ?_), I1.out.tr hu, hg2, HNX.out heq⟩
              rcases hj with rfl | rfl | rfl | hj
              · exact ⟨by omega, fun e => by omega⟩
              · exact ⟨by omega, fun e => by omega⟩
              · exact ⟨by omega, fun e => by omega⟩
              · obtain rfl : ga = j := Option.some.inj hj
                exact ⟨by omega, fun e => by omega⟩
            · have hb : (s' == x.1) = false := by simpa using heq
              go_wp2_with (refine wpList_val rfl (exec_neq_block rfl rfl rfl h64' x.2) ?_; rw [hb])
              refine onlyN_normal ?_
              have q3 := cell_at HG3.out 0
              have r3 := free_at HG3.out 0
              have q4 := cell_at HG4.out 0
              have r4 := free_at HG4.out 0
              simp only [List.getElem?_toArray, List.getElem?_cons_zero] at q3 q4
              gi_wp2
              refine post_name (Q := ownPostG _ _ _ _ _ _) ?_
              intro W' hW0
              have hW' : W' = (W.drew.setCell ⟨m + 3, 0, none⟩ (.slice none 0 0)).setCell ⟨m + 4, 0, none⟩ (.bool false) := hW0
              clear hW0
              have hu : Upd (fun j => j = m + 3 ∨ j = m + 4) W W' := by rw [hW']; exact ((Upd.refl (fun j => j = m + 3 ∨ j = m + 4) W).drew.setCell ⟨m + 3, 0, none⟩ _ (fun _ => .inl rfl)).setCell ⟨m + 4, 0, none⟩ _ (fun _ => .inr rfl)
              have hg3' : W'.heap[m + 3]? = some (.cells #[.slice none 0 0] 35 (0, 0)) := by
                rw [hW', heap_set_ne (heap_set (show W.drew.heap[m + 3]? = _ from HG3.out) 0 _) (show m + 3 ≠ m + 4 by omega)]; rfl
              have hg4' : W'.heap[m + 4]? = some (.cells #[.bool false] 4 (0, 0)) := by
                rw [hW', heap_set (heap_set_ne (show W.drew.heap[m + 4]? = _ from HG4.out) (show m + 4 ≠ m + 3 by omega) _) 0]; rfl
              have hW5 := I1.out.size
              exact ⟨keepsOf hu (fun j o e _ hB => by rcases e with e | e <;> omega), rfl, (I1.out.mono (fun _ _ e => .inl e)).trans hu (fun j _ e => .inr e), hg3', hg4', HNE.out heq⟩
          case done =>
            rintro D' W hD hI hDk
            obtain ⟨i1, i2, i3⟩ := hI
            have g3 := i1.heap HG85.out (show ¬ (m + 3 = m + 2) by omega)
            have g4 := i1.heap HG95.out (show ¬ (m + 4 = m + 2) by omega)
            have I1 := Lib.hid i1
            have I3 := Lib.hid i3
            have HG3 := Lib.hid g3
            have HG4 := Lib.hid g4
            have HDk := Lib.hid hDk
            have q3 := cell_at g3 0
            have r3 := free_at g3 0
            have q4 := cell_at g4 0
            have r4 := free_at g4 0
            simp only [List.getElem?_toArray, List.getElem?_cons_zero] at q3 q4
            clear i1 i2 i3 g3 g4 hDk
            go_wp2
            refine door_nameM ?_
            intro W' hW0
            have hW' : W' = (W.setCell ⟨m + 3, 0, none⟩ (.slice (some ⟨ga, 0, none⟩) sz sz)).setCell ⟨m + 4, 0, none⟩ (.bool true) := hW0
            clear hW0
            have hu : Upd (fun j => j = m + 3 ∨ j = m + 4) W W' := by rw [hW']; exact ((Upd.refl (fun j => j = m + 3 ∨ j = m + 4) W).setCell ⟨m + 3, 0, none⟩ _ (fun _ => .inl rfl)).setCell ⟨m + 4, 0, none⟩ _ (fun _ => .inr rfl)
            have hg3' : W'.heap[m + 3]? = some (.cells #[.slice (some ⟨ga, 0, none⟩) sz sz] 35 (0, 0)) := by
              rw [hW', heap_set_ne (heap_set HG3.out 0 _) (show m + 3 ≠ m + 4 by omega)]; rfl
            have hg4' : W'.heap[m + 4]? = some (.cells #[.bool true] 4 (0, 0)) := by
              rw [hW', heap_set (heap_set_ne HG4.out (show m + 4 ≠ m + 3 by omega) _) 0]; rfl
            clear hW'
            have hDk2 : W'.heap[D']? = some (.deferred (some [])) := hu.heap HDk.out (fun e => by rcases e with e | e <;> omega)
            have hu5 : Upd (fun j => j = m + 2 ∨ j = m + 3 ∨ j = m + 4) w5 W' := (I1.out.mono (fun _ _ e => .inl e)).trans hu (fun j _ e => .inr e)
            have hu4 : Upd (fun j => j = D') W' (W'.putObj D' (.deferred none)) := (Upd.refl _ W').grown (grownBy_putObj' W' D' (.deferred none)) (fun j hj _ => (Option.some.inj hj).symm)
            have hfin : Upd NoS w (W'.putObj D' (.deferred none)) := ((U0.out.tr U05.out).trans hu5 (fun j hj e => by have := HM.out; rcases e with e | e | e <;> omega)).trans hu4 (fun j hj e => by have := HM.out; rw [show j = D' from e] at hj; omega)
            refine ⟨by simp, .inl ⟨_, _, rfl, run_takeDeferred hDk2, ?_⟩⟩
            refine ⟨_, results_cells2 rfl _ _ (a := ⟨m + 3, 0, none⟩) (b := ⟨m + 4, 0, none⟩) rfl rfl (run_loadVar_slice (hu4.heap hg3' (fun e => by omega))) (run_loadVar_bool (hu4.heap hg4' (fun e => by omega))), hfin, ?_⟩
            have hst : standsOf turn f at_ number = some l := by
              rw [HST.out, if_neg (by omega)]
              have hkk : ((k : Int)).toNat = k := by omega
              rw [hkk, ← HLE.out, ← HX.out]
              have h9 := I3.out
              rw [hxl] at h9
              rw [if_pos h9]
            rw [hst]
            refine ⟨some ⟨ga, 0, none⟩, sz, by rw [HLL.out], ?_, fun j hj => ?_, hlt5⟩
            · rw [HLL.out]
              exact (HRL5.out.upd hu5 (fun j hj e => by obtain rfl : ga = j := Option.some.inj hj; rcases e with e | e | e <;> omega)).upd hu4 (fun j hj e => by obtain rfl : ga = j := Option.some.inj hj; rw [show ga = D' from e] at hgaw; omega)
            · obtain rfl : ga = j := Option.some.inj hj
              have := HM.out
              omega
          case stop =>
            rintro D' c0 pre W hD hpre ⟨rfl, i1, i3, i4, i5⟩ hDk
            have I1 := Lib.hid i1
            have HG3 := Lib.hid i3
            have HG4 := Lib.hid i4
            have I5 := Lib.hid i5
            have HDk := Lib.hid hDk
            have HPRE := Lib.hid hpre
            clear i1 i3 i4 i5 hDk hpre
            go_wp2
            have hu4 : Upd (fun j => j = D') W (W.putObj D' (.deferred none)) := (Upd.refl _ W).grown (grownBy_putObj' W D' (.deferred none)) (fun j hj _ => (Option.some.inj hj).symm)
            have hfin : Upd NoS w (W.putObj D' (.deferred none)) := ((U0.out.tr U05.out).trans I1.out (fun j hj e => by have := HM.out; rcases e with e | e | e <;> omega)).trans hu4 (fun j hj e => by have := HM.out; rw [show j = D' from e] at hj; omega)
            refine ⟨by simp, .inl ⟨_, _, rfl, run_takeDeferred HDk.out, ?_⟩⟩
            refine ⟨_, results_cells2 rfl _ _ (a := ⟨m + 3, 0, none⟩) (b := ⟨m + 4, 0, none⟩) rfl rfl (run_loadVar_slice (hu4.heap HG3.out (fun e => by omega))) (run_loadVar_bool (hu4.heap HG4.out (fun e => by omega))), hfin, ?_⟩
            have hst : standsOf turn f at_ number = none := by
              rw [HST.out, if_neg (by omega)]
              have hkk : ((k : Int)).toNat = k := by omega
              rw [hkk, ← HLE.out, ← HX.out, if_neg]
              intro h9
              obtain ⟨rest, hrest⟩ := HPRE.out
              apply I5.out
              have h10 := congrArg (List.take pre.length) h9
              rw [← hrest, List.map_append, List.take_append_of_le_length (by simp), List.take_of_length_le (by simp), List.take_take] at h10
              rw [h10]
              congr 1
              have : pre.length ≤ xs.length := by rw [← hrest]; simp
              omega
            rw [hst]
            rfl
  · have hat' : (f.length : Int) ≤ at_ := by omega
    go_wp2
    refine door_nameM ?_
    intro W hW
    have hu0 : Upd NoS w W := by rw [hW]; exact (((((Upd.refl NoS w).alloc _).alloc _).alloc _).alloc _).alloc _
    have hg8 : W.heap[m + 3]? = some (.cells #[.slice none 0 0] 35 (0, 0)) := by rw [hW, hm]; exact heap_old (heap_new' (by simp))
    have hg9 : W.heap[m + 4]? = some (.cells #[.bool false] 4 (0, 0)) := by rw [hW, hm]; exact heap_new' (by simp)
    clear hW
    subst hm
    refine ⟨_, results_cells2 rfl _ _ (a := ⟨w.heap.size + 3, 0, none⟩) (b := ⟨w.heap.size + 4, 0, none⟩) rfl rfl (run_loadVar_slice hg8) (run_loadVar_bool hg9), hu0, ?_⟩
    have : standsOf turn f at_ number = none := by unfold standsOf; rw [List.getElem?_eq_none (by omega)]
    rw [this]
    rfl
end Go.Proofs.Ytomgdfoahfhijaa
