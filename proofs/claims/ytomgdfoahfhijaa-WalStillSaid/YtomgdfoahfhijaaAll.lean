/- slices.Clone of rows of bytes; what an account is behind an act. wal: All; and a log's account. -/
import Derived.Test.YtomgdfoahfhijaaSee
import Derived.Test.YtomgdfoahfhijaaLab
import Derived.Test.YtomgdfoahfhijaaAct
import Derived.Test.YtomgdfoahfhijaaWbh
set_option linter.unusedVariables false
set_option linter.unusedSimpArgs false
namespace Go.Proofs.Ytomgdfoahfhijaa
open Go.RowKit

theorem Acc.ones {w : World} {v : Value} {l : List (List UInt8)} {T : Nat → Prop} {vals : List Value} (h1 : Rd w 35 1 v l.length vals)
    (h3 : ∀ (i : Nat) (u : Value) (b : List UInt8), vals[i]? = some u → l[i]? = some b → Rd w 5 1 u b.length (bvs b) ∧ ∀ k, u.ownBlock = some k → T k) : ∀ u ∈ vals, u.oneCell' = true := by
  intro u hu
  obtain ⟨i, hi⟩ := List.getElem?_of_mem hu
  have hvl : vals.length = l.length := by simpa using h1.1
  have hlt := (List.getElem?_eq_some_iff.1 hi).1
  obtain ⟨h4, _⟩ := h3 i u _ hi (List.getElem?_eq_getElem (by omega))
  obtain ⟨a, c, rfl, _⟩ := h4.any
  rfl
theorem infoS_parts : ∃ i z, Try.prog.info? 35 = some i ∧ i.zero = some z ∧ i.size = 1 ∧ i.bytes = 24 ∧ z.cells.size = 1 := by
  obtain ⟨i, hi, h⟩ := Option.map_eq_some_iff.1 infoS
  simp only [Prod.mk.injEq] at h
  exact ⟨i, _, hi, h.1, h.2.1, h.2.2, rfl⟩
theorem eql_nil_slice {P : Program} (w : World) {t e : TypeId} (a : Addr) (n c : Nat) (ht : P.underlying t = some (.slice e)) : (binOp .eql t (.slice (some a) n c) (.slice none 0 0)).run P w = .ok (.bool false) w := by
  have h : ∀ d : Nat, (Op.equalIn (d + 1) t (.slice (some a) n c) (.slice none 0 0)).run P w = .ok false w := fun d => by
    simp [Op.equalIn, run_underlying ht]
  simp only [binOp]
  simp [Op.equal, Op.maxDepth, h 9999]
theorem own_empty (w : World) (e size : Nat) : (w.alloc (.cells #[] e)).ownsRow w.heap.size e size (.slice (some ⟨w.heap.size, 0, none⟩) 0 0) 0 [] :=
  ⟨by simp, .inr ⟨w.heap.size, 0, #[], rfl, Nat.le_refl _, heap_new _ _, Nat.le_refl _, by unfold maxLen; omega, by simp, by simp⟩⟩
set_option maxRecDepth 100000 in
set_option maxHeartbeats 1000000 in
theorem cloneIs (w : World) (g o n c : Nat) (vals : List Value) (h : Rd w 35 1 (.slice (some ⟨g, o, none⟩) n c) n vals) (h1 : ∀ u ∈ vals, u.oneCell' = true) (hn : n ≤ 1000000) :
    Calls Try.prog 57 #[.slice (some ⟨g, o, none⟩) n c] w fun e w' => ∃ a c', e = .returned (.slice a n c') ∧ w'.ownsRow w.heap.size 35 1 (.slice a n c') n vals ∧ Upd NoS w w' := by
  have H := Lib.hid h
  have H1 := Lib.hid h1
  clear h h1
  go_enter Try.func57, Try.ntmps57
  go_wp2
  rw [eql_nil_slice w ⟨g, o, none⟩ n c Try.underlying51]
  go_wp2_with (at_builtin; refine halted ?_)
  unfold Halted
  obtain ⟨i0, z0, hi, hz, hs, hb, hzs⟩ := infoS_parts
  obtain ⟨a3, c3, w3, hrun, hown, hgr⟩ := run_append_rd (P := Try.prog) (t := 51) (ty := 51) Try.underlying51 hi hz hs hb hzs (by decide) (own_empty w 35 1) (H.out.updNo ((Upd.refl NoS w).alloc _)) H1.out (by unfold maxLen; omega) (by omega) (by simp)
  rw [Nat.zero_add, List.nil_append] at hown
  rw [Nat.zero_add] at hrun
  have hu : Upd NoS w w3 := ((Upd.refl NoS w).alloc (.cells #[] 35)).grown hgr (fun k hk hlt => by cases hk; exact absurd hlt (Nat.lt_irrefl _))
  refine wpList_app rfl _ _ _ rfl rfl rfl hrun ?_
  clear hrun hi hz hs hb hzs hgr
  have HO := Lib.hid hown
  have HU := Lib.hid hu
  clear hown hu
  go_wp2
  go_ret
  exact ⟨a3, c3, rfl, HO.out, HU.out⟩
theorem acc_one {w : World} {a : Option Addr} {c : Nat} {b : List UInt8} {T : Nat → Prop} (h : Rd w 5 1 (.slice a b.length c) b.length (bvs b)) (hT : ∀ k, (Value.slice a b.length c).ownBlock = some k → T k) (hn : T w.heap.size) :
    Acc (w.alloc (.cells #[.slice a b.length c] 35)) (.slice (some ⟨w.heap.size, 0, none⟩) 1 1) [b] T := by
  refine ⟨[.slice a b.length c], rd_new' w 35 1 1 #[.slice a b.length c] rfl (by unfold maxLen; omega), fun k hk => by cases hk; exact hn, fun i u x hu hx => ?_⟩
  cases i with
  | zero => cases hu; cases hx; exact ⟨h.updNo ((Upd.refl NoS w).alloc _), hT⟩
  | succ i => simp at hu
def behindOf (l : List (List UInt8)) (k n : Int) (f : UInt8) : List (List UInt8) := if k % 8 = 3 then [actBytes n f] else l ++ [actBytes n f]
set_option maxRecDepth 100000 in
set_option maxHeartbeats 2000000 in
theorem behindIs (w : World) (v : Value) (l : List (List UInt8)) (T : Nat → Prop) (h : Acc w v l T) (h0 : 0 < l.length) (hn : l.length ≤ 100000) (k n : Int) (f : UInt8) (a : Option Addr) (m c : Nat) :
    Calls Try.prog 32 #[v, actV k n f (.slice a m c)] w fun e w' => ∃ v', e = .returned v' ∧ Acc w' v' (behindOf l k n f) (fun k => T k ∨ w.heap.size ≤ k) ∧ Upd NoS w w' := by
  obtain ⟨av, cv, rfl, hc1, hc2, hga⟩ := h.shape
  obtain ⟨g, o, rfl⟩ := hga h0
  obtain ⟨vals, h1, h2, h3⟩ := h
  have hones := Acc.ones h1 h3
  have H1 := Lib.hid h1
  have H2 := Lib.hid h2
  have H3 := Lib.hid h3
  have HON := Lib.hid hones
  clear h1 h2 h3 hones hga
  unfold maxLen at hc2
  unfold actV
  by_cases hk : k % 8 = 3
  · go_enter Try.func32, Try.ntmps32
    go_wp2_with (first
      | (go_at_call 16; refine halted ?_))
    unfold Halted
    refine (actKind _ k n f a m c).mono ?_
    rintro e1 w1 ⟨rfl, hu1⟩
    have hA := hu1.heap (heap_new w (.cells #[.int .i64 k, .int .i64 n, .int .u8 (f.toNat : Int), .slice a m c] 33)) id
    have c0 := cell_at hA 0
    have c1 := cell_at hA 1
    have c2 := cell_at hA 2
    have c3 := cell_at hA 3
    simp only [List.getElem?_toArray, List.getElem?_cons_zero, List.getElem?_cons_succ] at c0 c1 c2 c3
    have HU1 := Lib.hid (((Upd.refl NoS w).alloc (.cells #[.int .i64 k, .int .i64 n, .int .u8 (f.toNat : Int), .slice a m c] 33)).tr hu1)
    clear hA hu1
    go_wp2_with (first
      | (go_at_call 15; refine halted ?_))
    unfold Halted
    refine (actBytesIs _ k n f a m c).mono ?_
    rintro e2 w2 ⟨a2, m2, rfl, hown, hu2⟩
    have HR := Lib.hid (Rd.of_own hown)
    have HG := Lib.hid (own_ge hown)
    have HU2 := Lib.hid (HU1.out.tr hu2)
    clear hown hu2
    go_wp2
    go_ret
    have hs1 := HU1.out.size
    have hs2 := HU2.out.size
    refine ⟨_, rfl, ?_, HU2.out.alloc _⟩
    unfold behindOf
    rw [if_pos hk]
    exact acc_one HR.out (fun j hj => .inr (by have := HG.out j hj; omega)) (.inr hs2)
  · have hkb : ((k % 8) == 3) = false := by simpa using hk
    have HK := Lib.hid hk
    clear hk
    go_enter Try.func32, Try.ntmps32
    go_wp2_with (first
      | (go_at_call 16; refine halted ?_))
    unfold Halted
    refine (actKind _ k n f a m c).mono ?_
    rintro e1 w1 ⟨rfl, hu1⟩
    have hA := hu1.heap (heap_new w (.cells #[.int .i64 k, .int .i64 n, .int .u8 (f.toNat : Int), .slice a m c] 33)) id
    have HU1 := Lib.hid (((Upd.refl NoS w).alloc (.cells #[.int .i64 k, .int .i64 n, .int .u8 (f.toNat : Int), .slice a m c] 33)).tr hu1)
    have MK : Hid (∀ w', Upd NoS w1 w' → w'.cell? ⟨w.heap.size, 0, none⟩ = some (.int .i64 k) ∧ w'.cell? ⟨w.heap.size, 1, none⟩ = some (.int .i64 n) ∧ w'.cell? ⟨w.heap.size, 2, none⟩ = some (.int .u8 (f.toNat : Int)) ∧ w'.cell? ⟨w.heap.size, 3, none⟩ = some (.slice a m c)) :=
      Lib.hid fun w' hu => ⟨cell_at (hu.heap hA id) 0, cell_at (hu.heap hA id) 1, cell_at (hu.heap hA id) 2, cell_at (hu.heap hA id) 3⟩
    obtain ⟨B, hB⟩ : ∃ B, B = w.heap.size := ⟨_, rfl⟩
    rw [← hB] at MK ⊢
    have HB := Lib.hid hB
    clear hA hu1 hB
    go_wp2
    refine wp_region_canon (fun w' => Upd NoS w1 w') 4 3 [1, 3] [0, 2, 1, 3] rfl (by kernel_rfl) (by decide) (by kernel_rfl) (by kernel_rfl) (by kernel_rfl) (by kernel_rfl) (by kernel_rfl) ((Upd.refl _ _).drew) ?_
    simp only [List.take_succ_cons, List.take_zero, List.drop_succ_cons, List.drop_zero, pick, List.getElem?_cons_succ, List.getElem?_cons_zero, Nat.reduceBEq, List.contains_cons, List.contains_nil, Bool.or_self, Bool.or_false, Bool.or_true, Bool.true_or, Bool.false_or]
    iterate 2 (refine wpD_quiet ?_ (fun w' hS => ?_) ?_; rotate_left; (· obtain ⟨f0, f1, f2, f3⟩ := MK.out w' hS; go_simp; (try with_reducible rfl)); (try simp only [Act.put, List.setIfInBounds_toArray, List.set_cons_succ, List.set_cons_zero]))
    refine wpD_loud (fun K hK => ?_)
    go_wp2_with fail
    refine (cloneIs _ g o l.length cv vals (H1.out.updNo (HU1.out.drew)) HON.out (by omega)).mono ?_
    rintro e2 w2 ⟨a2, c2, rfl, hown2, hu2⟩
    have HU2 := Lib.hid ((Upd.refl NoS w1).drew.tr hu2)
    have HO2 := Lib.hid hown2
    clear hu2 hown2
    go_wp2_with fail
    refine hK _ _ HU2.out ?_
    try simp only [Act.put, List.setIfInBounds_toArray, List.set_cons_succ, List.set_cons_zero]
    refine wpD_loud (fun K2 hK2 => ?_)
    go_wp2_with fail
    refine (actBytesIs _ k n f a m c).mono ?_
    rintro e3 w3 ⟨a3, m3, rfl, hown3, hu3⟩
    have HU23 := Lib.hid hu3
    have HU3 := Lib.hid (HU2.out.tr hu3)
    have HO3 := Lib.hid hown3
    clear hu3 hown3
    go_wp2_with fail
    refine hK2 _ _ HU3.out ?_
    try simp only [Act.put, List.setIfInBounds_toArray, List.set_cons_succ, List.set_cons_zero]
    refine wpD_nil ?_
    go_wp2_with (at_builtin; refine halted ?_)
    unfold Halted
    obtain ⟨i0, z0, hi, hz, hs, hb, hzs⟩ := infoS_parts
    have hw4 : Upd NoS w3 (w3.alloc (.cells #[.slice a3 (actBytes n f).length m3] 35)) := (Upd.refl NoS w3).alloc _
    obtain ⟨a5, c5, w5, hrun, hown, hgr⟩ := run_append_rd (P := Try.prog) (t := 51) (ty := 51) Try.underlying51 hi hz hs hb hzs (by decide) (own_upd (own_upd HO2.out HU23.out (fun _ _ h => h)) hw4 (fun _ _ h => h))
      (rd_new' w3 35 1 1 #[.slice a3 (actBytes n f).length m3] rfl (by unfold maxLen; omega)) (fun u hu => by rw [List.mem_singleton.1 hu]; rfl) (by unfold maxLen; omega) (by omega) (by have h1 := HU2.out.size; have h2 := HU23.out.size; have h3 := hw4.size; exact Nat.le_trans h1 (Nat.le_trans h2 h3))
    have hu45 : Upd NoS w w5 := HU1.out.tr ((HU3.out.tr hw4).grown hgr (fun j hj hlt => absurd (own_ge HO2.out j hj) (Nat.not_le_of_lt hlt)))
    refine wpList_app rfl _ _ _ rfl rfl rfl hrun ?_
    clear hrun hi hz hs hb hzs
    have hg5 : ∀ k2, (Value.slice a2 l.length c2).ownBlock = some k2 → w1.heap.size ≤ k2 := own_ge HO2.out
    have hacc : Acc w5 (.slice a5 (l.length + 1) c5) (l ++ [actBytes n f]) (fun k => T k ∨ w.heap.size ≤ k) := by
      have hvl : vals.length = l.length := by simpa using H1.out.1
      have hs1 := HU1.out.size
      have hs3 := HU3.out.size
      have hr3 : Rd w5 5 1 (.slice a3 (actBytes n f).length m3) (actBytes n f).length (bvs (actBytes n f)) := ((Rd.of_own HO3.out).updNo hw4).upd (Upd.grown (S := fun j => (Value.slice a2 l.length c2).ownBlock = some j) (Upd.refl _ _) hgr (fun j hj _ => hj))
        (fun j hj e => by have h1 := own_ge HO3.out j hj; have h2 := own_lt HO2.out j e; omega)
      refine ⟨vals ++ [.slice a3 (actBytes n f).length m3], ?_, ?_, ?_⟩
      · rw [List.length_append, List.length_singleton]
        exact Rd.of_own hown
      · intro j hj
        have := own_ge hown j hj
        exact .inr (by have h : w1.drew.heap.size = w1.heap.size := rfl; omega)
      · intro i u b hu hb
        by_cases hi : i < l.length
        · rw [List.getElem?_append_left (by omega)] at hu
          rw [List.getElem?_append_left hi] at hb
          obtain ⟨h4, h5⟩ := H3.out i u b hu hb
          exact ⟨h4.updNo hu45, fun j hj => .inl (h5 j hj)⟩
        · rw [List.getElem?_append_right (by omega)] at hu hb
          rw [hvl] at hu
          cases hq : i - l.length with
          | zero =>
            rw [hq] at hu hb
            cases hu; cases hb
            exact ⟨hr3, fun j hj => .inr (by have h1 := own_ge HO3.out j hj; have h2 := HU2.out.size; omega)⟩
          | succ q => rw [hq] at hu; simp at hu
    have HAC := Lib.hid hacc
    have HU5 := Lib.hid hu45
    clear hacc hu45 hw4 hown hgr hg5
    go_wp2
    refine NoPanic.normal ?_
    go_wp2
    go_ret
    refine ⟨_, rfl, ?_, HU5.out⟩
    unfold behindOf
    rw [if_neg HK.out]
    exact HAC.out
end Go.Proofs.Ytomgdfoahfhijaa
namespace Go.Proofs.Ytomgdfoahfhijaa
open Go.RowKit
attribute [local go_sem] Oper.semAt_some

/-- What All of a log leaves: a slice that reads as what came, none of it in F. -/
def AllTo (N : Nat) (w' : World) (b : Nat) (came : List (List UInt8)) (F : Nat → Prop) : Prop :=
  ∃ vs vals, w'.heap[b]? = some (.cells #[vs] 51 (0, 0)) ∧ Rd w' 35 1 vs came.length vals ∧ (∀ k, vs.ownBlock = some k → ¬ F k ∧ k < N) ∧
    ∀ (i : Nat) (u : Value) (l : List UInt8), vals[i]? = some u → came[i]? = some l → Rd w' 5 1 u l.length (bvs l) ∧ ∀ k, u.ownBlock = some k → ¬ F k ∧ k < N
set_option maxRecDepth 100000 in
set_option maxHeartbeats 1000000 in
theorem walAll (w0 w : World) (p d : Nat) (D : Dk) (S : Nat → Prop) (L : Wl) (h : IsWal w0 p d D S L) (hu0 : Upd NoS w0 w) : Calls Try.prog 23 #[.pointer (some ⟨p, 0, none⟩)] w fun e w' =>
    e = .returned (.func (.func 50) #[] #[.pointer (some ⟨w.heap.size, 0, none⟩)]) ∧ AllTo w0.heap.size w' w.heap.size (L.said.drop 1) (fun k => S k ∨ k = p) ∧ Upd NoS w w' ∧ w'.heap.size = w.heap.size + 1 := by
  obtain ⟨a, n, c, hc, hs, rfl, hnc⟩ := h.cells
  have hs0 := h.ok.s0
  have hpl := lt_of_heap (hu0.heap hc id)
  obtain ⟨vals, h1, h2, h3⟩ := hs
  obtain ⟨g, o, rfl⟩ : ∃ g o, a = some ⟨g, o, none⟩ := by
    rcases h1.shape with ⟨_, h0⟩ | ⟨g, o, c', e, _⟩
    · omega
    · cases e; exact ⟨g, o, rfl⟩
  have hcm : c ≤ maxLen := by
    rcases h1.shape with ⟨h0, _⟩ | ⟨_, _, _, e, _, h⟩
    · cases h0
    · cases e; exact h
  have q3 : (w.alloc (.cells #[.slice none 0 0] 51)).cell? ⟨p, 3, none⟩ = some (.slice (some ⟨g, o, none⟩) L.said.length c) := cell_at (heap_old (o' := .cells #[.slice none 0 0] 51) (hu0.heap hc id)) 3
  obtain ⟨N, hN⟩ : ∃ N, L.said.length = N + 1 := ⟨L.said.length - 1, by omega⟩
  have hdl : (L.said.drop 1).length = N := by rw [List.length_drop]; omega
  obtain ⟨vs, hvs, hrd⟩ : ∃ vs, (vs = if c = 1 then Value.slice (some ⟨g, o, none⟩) N 0 else .slice (some ⟨g, o + 1, none⟩) N (c - 1)) ∧ Rd w0 35 1 vs N (vals.drop 1) := by
    refine ⟨_, rfl, ?_⟩
    split
    · rename_i hcn
      have := h1.dropEnd (n := 1) (by omega) (by omega)
      rw [hN] at this
      obtain rfl : N = 0 := by omega
      subst hcn
      exact this
    · have := h1.drop (n := 1) (by omega)
      rw [hN] at this
      exact this
  have hob : ∀ k, vs.ownBlock = some k → k = g := by
    intro k hk
    rw [hvs] at hk
    split at hk <;> cases hk <;> rfl
  have hgF : ¬ (S g ∨ g = p) ∧ g < w0.heap.size := ⟨h2 g rfl, h1.lt g rfl⟩
  obtain ⟨W1, hW1⟩ : ∃ W1, W1 = w.alloc (.cells #[vs] 51) := ⟨_, rfl⟩
  have hu1 : Upd NoS w W1 := by
    rw [hW1]
    exact (Upd.refl NoS w).alloc _
  have hall : AllTo w0.heap.size W1 w.heap.size (L.said.drop 1) (fun k => S k ∨ k = p) := by
    refine ⟨vs, vals.drop 1, ?_, ?_, fun k hk => by rw [hob k hk]; exact hgF, fun i u l hu hl => ?_⟩
    · rw [hW1]
      exact heap_new _ _
    · rw [hdl]
      exact (hrd.updNo hu0).updNo hu1
    · rw [List.getElem?_drop] at hu hl
      obtain ⟨h4, h5⟩ := h3 _ u l hu hl
      exact ⟨(h4.updNo hu0).updNo hu1, fun k hk => ⟨h5 k hk, h4.lt k hk⟩⟩
  have hsz : W1.heap.size = w.heap.size + 1 := by rw [hW1]; simp
  have HALL := Lib.hid hall
  have HU := Lib.hid hu1
  have HSZ := Lib.hid hsz
  have HW := Lib.hid hW1
  have HV := Lib.hid hvs
  have hl1 : (1 : Int) ≤ L.said.length := by omega
  have hl2 : L.said.length ≤ c := hnc
  have hl3 : ((L.said.length : Int) - 1).toNat = N := by omega
  have hl4 : L.said.length - 1 = N := by omega
  unfold maxLen at hcm
  clear hall hu1 hsz hW1 hvs hrd h1 h2 h3 hob hc h hN hdl hgF hs0 hu0
  by_cases hc1 : c = 1
  · rw [if_pos hc1] at HV
    subst hc1
    go_enter Try.func23, Try.ntmps23
    go_wp2
    go_ret
    have hw := HW.out
    rw [HV.out] at hw
    rw [← hw]
    exact ⟨rfl, HALL.out, HU.out, HSZ.out⟩
  · rw [if_neg hc1] at HV
    go_enter Try.func23, Try.ntmps23
    go_wp2
    go_ret
    have hw := HW.out
    rw [HV.out] at hw
    rw [← hw]
    exact ⟨rfl, HALL.out, HU.out, HSZ.out⟩
def AccOwn (w : World) (B : Nat) (v : Value) (l : List (List UInt8)) : Prop :=
  ∃ vals : List Value, w.ownsRow B 35 1 v l.length vals ∧ ∀ (i : Nat) (u : Value) (b : List UInt8), vals[i]? = some u → l[i]? = some b → OwnB w B u b
theorem AccOwn.acc {w : World} {B : Nat} {v : Value} {l : List (List UInt8)} (h : AccOwn w B v l) : Acc w v l (fun k => B ≤ k) := by
  obtain ⟨vals, h1, h2⟩ := h
  exact ⟨vals, Rd.of_own h1, own_ge h1, h2⟩
theorem cells_walk {B : Nat} {W W' : World} {row : Option Nat} {k : Nat} {cs : Array Value} {t : TypeId} {fr : Nat × Nat} (h : W.heap[k]? = some (.cells cs t fr)) (hg : W.grownBy W' row) (hr : ∀ r, row = some r → B ≤ r ∧ ∃ o : Obj, W.heap[r]? = some o ∧ o.isCells = false) : W'.heap[k]? = some (.cells cs t fr) :=
  (hg.block k (lt_of_heap h) (fun e => by obtain ⟨_, o, h1, h2⟩ := hr k e.symm; rw [h] at h1; cases h1; cases h2)).trans h
theorem Rd.walk {B : Nat} {W W' : World} {row : Option Nat} {e size n : Nat} {v : Value} {xs : List Value} (h : Rd W e size v n xs) (hg : W.grownBy W' row) (hr : ∀ r, row = some r → B ≤ r ∧ ∃ o : Obj, W.heap[r]? = some o ∧ o.isCells = false) : Rd W' e size v n xs := by
  obtain ⟨h1, h2 | ⟨g, o, c, cur, fr, rfl, hn, hm, hh, ht⟩⟩ := h
  · exact ⟨h1, .inl h2⟩
  · exact ⟨h1, .inr ⟨g, o, c, cur, fr, rfl, hn, hm, cells_walk hh hg hr, ht⟩⟩
theorem own_walk {B : Nat} {W W' : World} {row : Option Nat} {base e size n : Nat} {v : Value} {xs : List Value} (h : W.ownsRow base e size v n xs) (hg : W.grownBy W' row) (hr : ∀ r, row = some r → B ≤ r ∧ ∃ o : Obj, W.heap[r]? = some o ∧ o.isCells = false) : W'.ownsRow base e size v n xs := by
  rcases h.2 with h2 | ⟨g, cap, cur, rfl, hb, hh, hrest⟩
  · exact ⟨h.1, .inl h2⟩
  · exact ⟨h.1, .inr ⟨g, cap, cur, rfl, hb, cells_walk hh hg hr, hrest⟩⟩
theorem AccOwn.walk {B C : Nat} {W W' : World} {row : Option Nat} {v : Value} {l : List (List UInt8)} (h : AccOwn W C v l) (hg : W.grownBy W' row) (hr : ∀ r, row = some r → B ≤ r ∧ ∃ o : Obj, W.heap[r]? = some o ∧ o.isCells = false) : AccOwn W' C v l := by
  obtain ⟨vals, h1, h2⟩ := h
  exact ⟨vals, own_walk h1 hg hr, fun i u b hu hb => ⟨(h2 i u b hu hb).1.walk hg hr, (h2 i u b hu hb).2⟩⟩
theorem AccOwn.snoc {w w' : World} {B n c c' : Nat} {a a' : Option Addr} {l : List (List UInt8)} {vals : List Value} {u : Value} {b : List UInt8} (hn : n = l.length) (h1 : w.ownsRow B 35 1 (.slice a n c) n vals)
    (h2 : ∀ (i : Nat) (u : Value) (b : List UInt8), vals[i]? = some u → l[i]? = some b → OwnB w B u b) (hu : OwnB w B u b) (h3 : w'.ownsRow B 35 1 (.slice a' (n + 1) c') (n + 1) (vals ++ [u])) (hg : w.grownBy w' (Value.slice a n c).ownBlock) : AccOwn w' B (.slice a' (n + 1) c') (l ++ [b]) := by
  subst hn
  have hvl : vals.length = l.length := by simpa using h1.1
  have keep : ∀ {v : Value} {x : List UInt8}, OwnB w B v x → OwnB w' B v x := fun {v x} h => by
    refine ⟨h.1.upd (Upd.grown (S := fun j => (Value.slice a l.length c).ownBlock = some j) (Upd.refl _ _) hg (fun j hj _ => hj)) ?_, h.2⟩
    rintro k hk e
    rcases h.1.2 with ⟨rfl, _⟩ | ⟨g, o, c1, cur, fr, rfl, _, _, hh, _⟩
    · cases hk
    · cases hk
      rcases h1.2 with ⟨h5, _⟩ | ⟨g', cap, cur', h5, _, hh', _⟩
      · rw [h5] at e; cases e
      · rw [h5] at e; cases e; rw [hh] at hh'; cases hh'
  refine ⟨vals ++ [u], by rw [List.length_append, List.length_singleton]; exact h3, fun i v x hv hx => ?_⟩
  by_cases hi : i < l.length
  · rw [List.getElem?_append_left (by omega)] at hv
    rw [List.getElem?_append_left hi] at hx
    exact keep (h2 i v x hv hx)
  · rw [List.getElem?_append_right (by omega)] at hv hx
    rw [hvl] at hv
    cases hq : i - l.length with
    | zero => rw [hq] at hv hx; cases hv; cases hx; exact keep hu
    | succ q => rw [hq] at hv; simp at hv
def AccI (B O : Nat) (sn : List UInt8) (came : List (List UInt8)) (vs : Value) (w : World) (pre : List AllX) (W : World) : Prop :=
  pre.length ≤ came.length ∧ ∃ v, W.heap[O]? = some (.cells #[v] 51 (0, 0)) ∧ AccOwn W B v (sn :: came.take pre.length) ∧ Upd NoS w W ∧ W.heap[O + 1]? = some (.cells #[vs] 51 (0, 0))
set_option maxRecDepth 100000 in
set_option maxHeartbeats 1000000 in
theorem accountIs (w : World) (p d : Nat) (D : Dk) (S : Nat → Prop) (L : Wl) (h : IsWal w p d D S L) : Calls Try.prog 34 #[.pointer (some ⟨p, 0, none⟩)] w fun e w' =>
    ∃ v, e = .returned v ∧ Acc w' v L.said (fun k => w.heap.size ≤ k) ∧ Upd NoS w w' := by
  have H := Lib.hid h
  have hok := h.ok
  obtain ⟨sn, came, hsaid⟩ : ∃ sn came, L.said = sn :: came := by
    have := hok.s0
    cases hq : L.said with
    | nil => rw [hq] at this; simp at this
    | cons a l => exact ⟨a, l, rfl⟩
  have hsnap : L.snap = sn := by unfold Wl.snap; rw [hsaid]; rfl
  have hdrop : L.said.drop 1 = came := by rw [hsaid]; rfl
  have hcl : came.length ≤ 1000 := by
    have h1 := hok.s1
    have h2 := hok.f1
    have h3 := hok.n1
    rw [hsaid, List.length_cons] at h1
    omega
  have hce : ∀ l ∈ sn :: came, l.length ≤ 40000 := fun l hl => hok.each l (by rw [hsaid]; exact hl)
  have HSA := Lib.hid hsaid
  have HSN := Lib.hid hsnap
  have HDR := Lib.hid hdrop
  have HCE := Lib.hid hce
  clear h hok hsaid hsnap hdrop hce
  refine calls_of_wp_marks (fn := Try.f34) Try.func34 rfl ?_
  simp only [Try.ntmps34, List.size_toArray, List.length_cons, List.length_nil, Nat.reduceAdd, Nat.reduceSub, Array.replicate_succ, Array.replicate_zero, List.push_toArray, List.append_toArray, List.nil_append, List.cons_append]
  go_wp2_with (go_at_call 26; refine halted ?_)
  unfold Halted
  refine (walSnap w p d D S L H.out).mono ?_
  rintro e1 w1 ⟨a1, c1, rfl, hown1, hu1⟩
  rw [HSN.out] at hown1 ⊢
  have HO1 := Lib.hid hown1
  have HU1 := Lib.hid hu1
  clear hown1 hu1
  go_wp2_with (go_at_call 23; refine halted ?_)
  unfold Halted
  refine calls_name ?_
  intro W2 hW2
  obtain ⟨O, hO⟩ : ∃ O, O = w1.heap.size + 1 := ⟨_, rfl⟩
  have hu2 : Upd NoS w1 W2 := by rw [hW2]; exact ((Upd.refl NoS w1).alloc _).alloc _
  have hz2 : W2.heap.size = O + 1 := by rw [hW2, hO]; simp
  have hgO : W2.heap[O]? = some (.cells #[.slice (some ⟨w1.heap.size, 0, none⟩) 1 1] 51 (0, 0)) := by rw [hW2, hO]; exact heap_new' (by simp)
  have hs1 := HU1.out.size
  have hacc : AccOwn W2 w.heap.size (.slice (some ⟨w1.heap.size, 0, none⟩) 1 1) (sn :: came.take 0) := by
    refine ⟨[.slice a1 sn.length c1], ⟨by simp, .inr ⟨w1.heap.size, 1, #[.slice a1 sn.length c1], rfl, hs1, ?_, Nat.le_refl _, by unfold maxLen; omega, by simp, by simp⟩⟩, fun i u b hu hb => ?_⟩
    · rw [hW2]; exact heap_old (heap_new _ _)
    · cases i with
      | zero => cases hu; cases hb; exact ⟨(Rd.of_own HO1.out).updNo hu2, own_ge HO1.out⟩
      | succ i => simp at hu
  have HAC := Lib.hid hacc
  have HGO := Lib.hid hgO
  have HU2 := Lib.hid (HU1.out.tr hu2)
  rw [← hO]
  have hO1 : w1.heap.size < O := by omega
  clear hW2 hacc hgO hu2 hO
  refine (walAll w W2 p d D S L H.out HU2.out).mono ?_
  rintro e3 w3 ⟨rfl, hall, hu3, hz3⟩
  rw [HDR.out] at hall
  rw [hz2] at hall hz3 ⊢
  obtain ⟨vs, vals, hb1, hrd, hvs, hvl⟩ := hall
  have hI0 : AccI w.heap.size O sn came vs w [] w3 := ⟨Nat.zero_le _, _, hu3.heap HGO.out id, by
    obtain ⟨vl, h1, h2⟩ := HAC.out
    exact ⟨vl, own_upd h1 hu3 (fun _ _ h => h), fun i u b hu hb => ⟨(h2 i u b hu hb).1.updNo hu3, (h2 i u b hu hb).2⟩⟩, HU2.out.tr hu3, hb1⟩
  have hgives := allGives w3 (O + 1) vs vals came hb1 hrd hcl (fun i v l hv hl => ⟨(hvl i v l hv hl).1, HCE.out l (List.mem_cons_of_mem _ (List.mem_of_getElem? hl))⟩)
  have hKl : ∀ k, AllK (O + 1) vs vals k → k = O + 1 ∨ k < w.heap.size := by
    intro k hk
    rcases hk with e | e | ⟨v, hm, e⟩
    · exact .inl e
    · exact .inr (hvs k e).2
    · obtain ⟨i, hi⟩ := List.getElem?_of_mem hm
      have hvl2 : vals.length = came.length := by simpa using hrd.1
      have hlt := (List.getElem?_eq_some_iff.1 hi).1
      exact .inr ((hvl i v _ hi (List.getElem?_eq_getElem (by omega))).2 k e).2
  have HGV := Lib.hid hgives
  have HI0 := Lib.hid hI0
  have HKL := Lib.hid hKl
  have HZ3 := Lib.hid hz3
  clear hgives hI0 hKl hb1 hrd hvs hvl hz2 hu3 hz3
  have hwO : w.heap.size < O := by omega
  go_wp2
  refine wp_rangeGives rfl (by kernel_rfl) HGV.out (fun k hk => by have h := HKL.out k hk; have := HZ3.out; omega) (fun x => rfl) (AccI w.heap.size O sn came vs w) (fun c pre W => False)
    (fun s W W' row h hg hr => by
      obtain ⟨h1, v, h2, h3, h4, h6⟩ := h
      exact ⟨h1, v, cells_walk h2 hg hr, h3.walk hg hr, h4.grown hg (fun k hk hlt => by have h5 := (hr k hk).1; have := HZ3.out; omega), cells_walk h6 hg hr⟩)
    (fun _ _ _ _ _ h _ _ => h) HI0.out
    (fun pre x a' W => (∃ l, came[pre.length]? = some l ∧ x.2.2.1 = l.length ∧ OwnB W w.heap.size (.slice x.2.1 x.2.2.1 x.2.2.2) l) ∧ a' = { tmps := #[.pointer (some ⟨p, 0, none⟩), undef, .slice none 0 0, .pointer (some ⟨O, 0, none⟩), undef, .slice x.2.1 x.2.2.1 x.2.2.2, .pointer (some ⟨p, 0, none⟩), .slice a1 sn.length c1, .slice (some ⟨w1.heap.size, 0, none⟩) 1 1, .pointer (some ⟨p, 0, none⟩), .func (.func 50) #[] #[.pointer (some ⟨O + 1, 0, none⟩)], .int .i64 x.1, .slice x.2.1 x.2.2.1 x.2.2.2, undef, undef, undef, undef, undef], defers := [] })
    (fun pre x a' s W W' row h hg hr => by
      obtain ⟨⟨l, h1, h2, h3, h4⟩, h5⟩ := h
      exact ⟨⟨l, h1, h2, h3.walk hg hr, h4⟩, h5⟩) ?assign ?body ?done ?stop
  case assign =>
    rintro l pre x W K' hI hG hK'
    simp only [encA]
    have HI := Lib.hid hI
    have HG := Lib.hid hG
    clear hI hG
    gi_wp2
    obtain ⟨hx1, b, hx2, hx3, hx4, hx5⟩ := HG.out
    exact hK' _ _ (keepsOf (Upd.refl NoS W) (fun _ _ h => h.elim)) (fun k hk => rfl) HI.out ⟨⟨b, hx2, hx3, hx4, fun k hk => by have := hx5 k hk; omega⟩, rfl⟩
  case body =>
    rintro l pre x a' W hl hr hI ⟨⟨b, hb1, hb2, hb3⟩, rfl⟩
    obtain ⟨hp, v, hv, hown, hu, hvs⟩ := hI
    have hlt : pre.length < came.length := (List.getElem?_eq_some_iff.1 hb1).1
    obtain ⟨x1, xa, xn, xc⟩ := x
    simp only at hb2 hb3 ⊢
    subst hb2
    have hb40 : b.length ≤ 40000 := HCE.out b (List.mem_cons_of_mem _ (List.mem_of_getElem? hb1))
    obtain ⟨vals2, ho1, ho2⟩ := hown
    have hsl : (sn :: came.take pre.length).length = pre.length + 1 := by rw [List.length_cons, List.length_take]; omega
    rw [hsl] at ho1
    obtain ⟨av, cv, rfl⟩ := own_shape ho1
    have q0 := cell_at hv 0
    simp only [List.getElem?_toArray, List.getElem?_cons_zero] at q0
    have hneO : ∀ k, (Value.slice av (pre.length + 1) cv).ownBlock = some k → k ≠ O := own_ne ho1 hv (by decide)
    have hneO1 : ∀ k, (Value.slice av (pre.length + 1) cv).ownBlock = some k → k ≠ O + 1 := own_ne ho1 hvs (by decide)
    have hge := own_ge ho1
    obtain ⟨i0, z0, hi, hz, hs, hb, hzs⟩ := infoS_parts
    have hwa : Upd NoS W (W.alloc (.cells #[.slice xa b.length xc] 35)) := (Upd.refl NoS W).alloc _
    have hWl := hu.size
    obtain ⟨a5, c5, w5, hrun, hown5, hgr⟩ := run_append_rd (P := Try.prog) (t := 51) (ty := 51) Try.underlying51 hi hz hs hb hzs (by decide) (own_upd ho1 hwa (fun _ _ h => h))
      (rd_new' W 35 1 1 #[.slice xa b.length xc] rfl (by unfold maxLen; omega)) (fun u hu => by rw [List.mem_singleton.1 hu]; rfl) (by unfold maxLen; omega) (by omega) (Nat.le_trans hWl hwa.size)
    have hu5 : Upd (fun k => (Value.slice av (pre.length + 1) cv).ownBlock = some k) W w5 := Upd.grown (hwa.mono (fun _ _ h => h.elim)) hgr (fun k hk _ => hk)
    have hO5 := hu5.heap hv (fun e => hneO O e rfl)
    have q5 := cell_at hO5 0
    have f5 := free_at hO5 0
    simp only [List.getElem?_toArray, List.getElem?_cons_zero] at q5
    have hset : Upd (OneS O) w5 (w5.setCell ⟨O, 0, none⟩ (.slice a5 (pre.length + 1 + 1) c5)) := (Upd.refl _ w5).setCell _ _ (fun _ => rfl)
    have hacc6 : AccOwn (w5.setCell ⟨O, 0, none⟩ (.slice a5 (pre.length + 1 + 1) c5)) w.heap.size (.slice a5 (pre.length + 1 + 1) c5) (sn :: came.take (pre.length + 1)) := by
      have h6 : AccOwn w5 w.heap.size (.slice a5 (pre.length + 1 + 1) c5) ((sn :: came.take pre.length) ++ [b]) :=
        AccOwn.snoc hsl.symm (own_upd ho1 hwa (fun _ _ h => h)) (fun i u b' hu' hb' => ⟨(ho2 i u b' hu' hb').1.updNo hwa, (ho2 i u b' hu' hb').2⟩) ⟨hb3.1.updNo hwa, hb3.2⟩ hown5 hgr
      rw [List.cons_append, show came.take pre.length ++ [b] = came.take (pre.length + 1) by rw [List.take_add_one, hb1]; rfl] at h6
      obtain ⟨vl, g1, g2⟩ := h6
      refine ⟨vl, own_upd g1 hset (own_ne g1 hO5 (by decide)), fun i u b' hu' hb' => ⟨(g2 i u b' hu' hb').1.upd hset ?_, (g2 i u b' hu' hb').2⟩⟩
      exact (g2 i u b' hu' hb').1.ne hO5 (by decide)
    have hup : Upd (fun k => (Value.slice av (pre.length + 1) cv).ownBlock = some k ∨ k = O) W (w5.setCell ⟨O, 0, none⟩ (.slice a5 (pre.length + 1 + 1) c5)) := (hu5.mono (fun _ _ h => .inl h)).tr (hset.mono (fun _ _ h => .inr h))
    have hcl1 : ∀ k o, ((Value.slice av (pre.length + 1) cv).ownBlock = some k ∨ k = O) → W.heap[k]? = some o → w3.heap.size ≤ k → o.isCells = true := by
      rintro k o (hk | rfl) ho _
      · rcases ho1.2 with ⟨h5, _⟩ | ⟨g', cap, cur', h5, _, hh', _⟩
        · rw [h5] at hk; cases hk
        · rw [h5] at hk; cases hk; rw [hh'] at ho; cases ho; rfl
      · rw [hv] at ho; cases ho; rfl
    have HP := Lib.hid hup
    have HC := Lib.hid hcl1
    have HA6 := Lib.hid hacc6
    have HRUN := Lib.hid hrun
    have HV := Lib.hid hvs
    have HUW := Lib.hid hu
    have HO5 := Lib.hid hO5
    have HNO := Lib.hid hneO1
    have HGE := Lib.hid hge
    clear hup hcl1 hacc6 hrun hvs hu hO5 hneO1 hge hu5 hset hown5 hgr ho1 ho2 hv hneO hi hz hs hb hzs hwa hb1 hb3 hr
    gi_wp2_with (first
      | (refine wpListIn_app rfl _ _ _ rfl rfl rfl HRUN.out ?_))
    have hfin : ∀ k, AllK (O + 1) vs vals k → k < W.heap.size ∧ ¬ ((Value.slice av (pre.length + 1) cv).ownBlock = some k ∨ k = O) := fun k hk => by
      have h1 := HKL.out k hk
      have h2 := lt_of_heap HV.out
      have h3 := HUW.out.size
      refine ⟨by omega, ?_⟩
      rintro (e | e)
      · rcases h1 with h1 | h1
        · exact HNO.out k e h1
        · have := HGE.out k e; omega
      · omega
    refine ⟨keepsOf HP.out HC.out, stayOf HP.out hfin, by rw [List.length_append, List.length_singleton]; omega, _, heap_set HO5.out 0 _, ?_, HUW.out.trans HP.out (fun k hk e => ?_), ?_⟩
    · rw [List.length_append, List.length_singleton]
      exact HA6.out
    · rcases e with e | e
      · have := HGE.out k e; omega
      · omega
    · exact HP.out.heap HV.out (fun e => e.elim (fun e => HNO.out _ e rfl) (fun e => by omega))
  case stop =>
    rintro D c pre W hD hI
    exact hI.elim
  case done =>
    rintro D xs W hD hDn hI hDk
    obtain ⟨hp, v, hv, hown, hu, hvs⟩ := hI
    have hDn' : xs.length = came.length := hDn
    rw [hDn', List.take_length] at hown
    have q0 := cell_at hv 0
    simp only [List.getElem?_toArray, List.getElem?_cons_zero] at q0
    have HOWN := Lib.hid hown
    have HUW := Lib.hid hu
    have HDK := Lib.hid hDk
    obtain ⟨av, cv, rfl⟩ : ∃ a c, v = .slice a (sn :: came).length c := by
      obtain ⟨vl, h1, _⟩ := hown
      exact own_shape h1
    clear hown hu hDk hv hvs hDn hDn'
    go_wp2
    have hg : W.grownBy (W.putObj D (.deferred none)) (some D) := grownBy_putObj' W D (.deferred none)
    refine ⟨by simp, .inl ⟨_, _, rfl, run_takeDeferred HDK.out, ?_⟩⟩
    refine ⟨.slice av (sn :: came).length cv, by simp [results, Try.results34, go_sem], _, rfl, ?_, ?_⟩
    · rw [HSA.out]
      exact (HOWN.out.walk (B := 0) hg (fun r e => by cases e; exact ⟨Nat.zero_le _, _, HDK.out, rfl⟩)).acc
    · exact HUW.out.grown hg (fun k hk hlt => by cases hk; have := HZ3.out; omega)
end Go.Proofs.Ytomgdfoahfhijaa
