/- wal: lay. -/
import Derived.Test.YtomgdfoahfhijaaWaa
set_option linter.unusedVariables false
set_option linter.unusedSimpArgs false
namespace Go.Proofs.Ytomgdfoahfhijaa
open Go.RowKit
attribute [local go_sem] Oper.semAt_some

theorem Tells.upd {α : Type} {P : Program} {g : Nat} {lb : Array Value} {encs : α → Array Value} {K : Nat → Prop} {xs : List α} {w w' : World} (h : Tells P g lb encs K xs w) (hu : Upd NoS w w') : Tells P g lb encs K xs w' :=
  fun l J Jx W hW hJ hJx hY h0 => h l J Jx W ((Upd.mono (T := FromS w.heap.size) hu (fun _ _ h => h.elim)).toBelow.trans (hW.mono hu.size)) hJ hJx hY h0
def Dk.laid (D : Dk) (at_ : Int) : List (List UInt8) → Option Dk
  | [] => some D
  | b :: l => if (D.write at_ b).1 = 0 then (D.write at_ b).2.laid (at_ + 1) l else none
def Dk.lays (D : Dk) (at_ : Int) : List (List UInt8) → Int × Dk
  | [] => D.sync
  | b :: l => if (D.write at_ b).1 = 0 then (D.write at_ b).2.lays (at_ + 1) l else D.write at_ b
theorem Dk.laid_snoc {b : List UInt8} : ∀ {D D1 : Dk} {at_ : Int} {pre : List (List UInt8)}, D.laid at_ pre = some D1 → (D1.write (at_ + pre.length) b).1 = 0 → D.laid at_ (pre ++ [b]) = some (D1.write (at_ + pre.length) b).2
  | D, D1, at_, [], h, hw => by
    cases h
    simp only [List.length_nil, Int.natCast_zero, Int.add_zero] at hw ⊢
    simp only [List.nil_append, Dk.laid, hw, if_true]
  | D, D1, at_, c :: pre, h, hw => by
    unfold Dk.laid at h
    by_cases hc : (D.write at_ c).1 = 0
    · rw [if_pos hc] at h
      have e : at_ + ((c :: pre).length : Int) = at_ + 1 + (pre.length : Int) := by simp; omega
      rw [e] at hw ⊢
      have := Dk.laid_snoc h hw
      rw [List.cons_append, Dk.laid, if_pos hc]
      exact this
    · rw [if_neg hc] at h; cases h
theorem Dk.lays_done : ∀ {D D1 : Dk} {at_ : Int} {xs : List (List UInt8)}, D.laid at_ xs = some D1 → D.lays at_ xs = D1.sync
  | D, D1, at_, [], h => by cases h; rfl
  | D, D1, at_, c :: xs, h => by
    unfold Dk.laid at h
    by_cases hc : (D.write at_ c).1 = 0
    · rw [if_pos hc] at h
      rw [Dk.lays, if_pos hc]
      exact Dk.lays_done h
    · rw [if_neg hc] at h; cases h
theorem Dk.lays_fails {b : List UInt8} {rest : List (List UInt8)} : ∀ {D D1 : Dk} {at_ : Int} {pre : List (List UInt8)}, D.laid at_ pre = some D1 → (D1.write (at_ + pre.length) b).1 ≠ 0 → D.lays at_ (pre ++ b :: rest) = D1.write (at_ + pre.length) b
  | D, D1, at_, [], h, hw => by
    cases h
    simp only [List.length_nil, Int.natCast_zero, Int.add_zero] at hw ⊢
    simp only [List.nil_append, Dk.lays, hw, if_false]
  | D, D1, at_, c :: pre, h, hw => by
    unfold Dk.laid at h
    by_cases hc : (D.write at_ c).1 = 0
    · rw [if_pos hc] at h
      have e : at_ + ((c :: pre).length : Int) = at_ + 1 + (pre.length : Int) := by simp; omega
      rw [e] at hw ⊢
      rw [List.cons_append, Dk.lays, if_pos hc]
      exact Dk.lays_fails h hw
    · rw [if_neg hc] at h; cases h
theorem Dk.write_loose (D : Dk) (at_ : Int) (b : List UInt8) : (D.write at_ b).2.loose.length ≤ D.loose.length + 1 := by
  obtain ⟨h, _, _, _⟩ := Dk.ask_loose D at_ true
  unfold Dk.write
  split
  · simp [Dk.op, h]
  · rw [h]; omega

/-- Between two rounds of lay. -/
def LayI (Wb : World) (d m : Nat) (D : Dk) (S : Nat → Prop) (at_ : Int) (n : Nat) (pre : List Bk) (W : World) : Prop :=
  ∃ Dp Sp, IsDisk W d Dp Sp ∧ (∀ k, Sp k → S k ∨ Wb.heap.size ≤ k) ∧ Upd (fun k => S k ∨ k = n + 1) Wb W ∧ W.heap[n + 1]? = some (.cells #[.int .i64 (at_ + (pre.length : Int))] 3 (0, 0)) ∧ D.laid at_ (pre.map Subtype.val) = some Dp ∧ Dp.loose.length ≤ D.loose.length + pre.length ∧
    W.cell? ⟨d, 1, none⟩ = some (.map (some m))
/-- A round of lay has returned. -/
def LayX (Wb : World) (d m : Nat) (D : Dk) (S : Nat → Prop) (at_ : Int) (n : Nat) (pre : List Bk) (W : World) : Prop :=
  ∃ (p0 : List Bk) (x : Bk) (D0 : Dk) (Sp : Nat → Prop), pre = p0 ++ [x] ∧ D.laid at_ (p0.map Subtype.val) = some D0 ∧ (D0.write (at_ + (p0.length : Int)) x.1).1 ≠ 0 ∧ IsDisk W d (D0.write (at_ + (p0.length : Int)) x.1).2 Sp ∧ (∀ k, Sp k → S k ∨ Wb.heap.size ≤ k) ∧
    Upd (fun k => S k ∨ k = n + 1 ∨ k = n + 2) Wb W ∧ W.heap[n + 2]? = some (.cells #[.int .i64 (D0.write (at_ + (p0.length : Int)) x.1).1] 38 (0, 0)) ∧ W.cell? ⟨d, 1, none⟩ = some (.map (some m))
/-- The disk stands through the turns of a loop's own records. -/
theorem disk_own {B d m : Nat} {Dp : Dk} {W W' : World} {Sp : Nat → Prop} {row : Option Nat} (h : IsDisk W d Dp Sp) (hm : W.cell? ⟨d, 1, none⟩ = some (.map (some m))) (hB : m < B) (hg : W.grownBy W' row) (hr : ∀ r, row = some r → B ≤ r ∧ ∃ o : Obj, W.heap[r]? = some o ∧ o.isCells = false) :
    IsDisk W' d Dp Sp ∧ W'.cell? ⟨d, 1, none⟩ = some (.map (some m)) := by
  have h' := h
  obtain ⟨m', v, hS, hd, hmm, hv, ho⟩ := h'
  have hc := cell_at hd 1
  simp only [Dk.cells, List.getElem?_toArray, List.getElem?_cons_zero, List.getElem?_cons_succ] at hc
  rw [hc] at hm
  obtain rfl : m' = m := by simpa using hm
  have hne : ∀ k, Sp k → row ≠ some k := by
    intro k hk e
    obtain ⟨h1, o, h2, h3⟩ := hr k e
    rcases (hS k).1 hk with rfl | rfl | h4
    · rw [hd] at h2; cases h2; cases h3
    · omega
    · rcases hv.2 with ⟨h5, _⟩ | ⟨g, cap, cur, h5, _, hgg, _⟩
      · rw [h5] at h4; cases h4
      · rw [h5] at h4; cases h4; rw [hgg] at h2; cases h2; cases h3
  have hu : Upd (fun k => row = some k) W W' := (Upd.refl _ W).grown hg (fun k hk _ => hk)
  have hI := h.upd hu (fun k hk e => hne k hk e)
  exact ⟨hI, (sameMap_upd h hu (fun e => hne d h.self e)).trans hc⟩
theorem layI_own {Wb : World} {d m : Nat} {D : Dk} {S : Nat → Prop} {at_ : Int} {n : Nat} (hm : m < Wb.heap.size) : OwnFrom Wb.heap.size (LayI Wb d m D S at_ n) := fun s W W' row h hg hr => by
  obtain ⟨Dp, Sp, h1, h2, h3, h4, h5, h6, h7⟩ := h
  obtain ⟨g1, g2⟩ := disk_own h1 h7 hm hg hr
  exact ⟨Dp, Sp, g1, h2, updOwn s W W' row h3 hg hr, heapOwn (cs := fun _ => #[.int .i64 (at_ + (s.length : Int))]) s W W' row h4 hg hr, h5, h6, g2⟩
theorem layX_own {Wb : World} {d m : Nat} {D : Dk} {S : Nat → Prop} {at_ : Int} {n : Nat} (hm : m < Wb.heap.size) : OwnFrom Wb.heap.size (LayX Wb d m D S at_ n) := fun s W W' row h hg hr => by
  obtain ⟨p0, x, D0, Sp, h0, h1, h2, h3, h4, h5, h6, h7⟩ := h
  obtain ⟨g1, g2⟩ := disk_own h3 h7 hm hg hr
  exact ⟨p0, x, D0, Sp, h0, h1, h2, g1, h4, updOwn s W W' row h5 hg hr, heapOwn (cs := fun _ => #[.int .i64 (D0.write (at_ + (p0.length : Int)) x.1).1]) s W W' row h6 hg hr, g2⟩

theorem foot_cells {w W : World} {d m B : Nat} {Df : Dk} {S Sf : Nat → Prop} (h : IsDisk W d Df Sf) (hm : W.cell? ⟨d, 1, none⟩ = some (.map (some m))) (hd : S d) (hSm : S m) (hf : ∀ k, Sf k → S k ∨ B ≤ k) (hB : w.heap.size ≤ B) : ∀ k, Sf k → S k ∨ NewCells w W k := by
  intro k hk
  obtain ⟨m', v, hS', hd', hmm, hv, _⟩ := h
  have hc := cell_at hd' 1
  simp only [Dk.cells, List.getElem?_toArray, List.getElem?_cons_zero, List.getElem?_cons_succ] at hc
  rw [hc] at hm
  obtain rfl : m' = m := by simpa using hm
  rcases hf k hk with h1 | h1
  · exact .inl h1
  rcases (hS' k).1 hk with rfl | rfl | h4
  · exact .inl hd
  · exact .inl hSm
  · rcases hv.2 with ⟨h5, _⟩ | ⟨g, cap, cur, h5, _, hgg, _⟩
    · rw [h5] at h4; cases h4
    · rw [h5] at h4; cases h4; exact .inr ⟨by omega, _, _, hgg⟩
set_option maxRecDepth 100000 in
set_option maxHeartbeats 4000000 in
theorem walLay (w : World) (d : Nat) (D : Dk) (S : Nat → Prop) (h : IsDisk w d D S) (at_ : Int) (ha1 : -1000000000 ≤ at_) (ha2 : at_ ≤ 1000000000) (gf : Nat) (lb : Array Value) (hgf : entersAt Try.prog gf = true) (K : Nat → Prop) (xs : List Bk)
    (ht : Tells Try.prog gf lb encB K xs w) (hK : ∀ k, K k → k < w.heap.size ∧ ¬ S k) (hl : D.loose.length + xs.length ≤ 1000000000) :
    Calls Try.prog 42 #[.pointer (some ⟨d, 0, none⟩), .int .i64 at_, .func (.func gf) #[] lb] w fun e w' => e = .returned (.int .i64 (D.lays at_ (xs.map Subtype.val)).1) ∧ DskTo w w' d (D.lays at_ (xs.map Subtype.val)).2 S := by
  have HI := Lib.hid h
  refine calls_of_wp_marks (fn := Try.f42) Try.func42 rfl ?_
  simp only [Try.ntmps42, List.size_toArray, List.length_cons, List.length_nil, Nat.reduceAdd, Nat.reduceSub, Array.replicate_succ, Array.replicate_zero, List.push_toArray, List.append_toArray, List.nil_append, List.cons_append]
  go_wp2
  refine wp_name ?_
  intro Wb hWb
  obtain ⟨n, hn⟩ : ∃ n, n = w.heap.size := ⟨_, rfl⟩
  have hu : Upd NoS w Wb := by rw [hWb]; exact (((Upd.refl NoS w).alloc _).alloc _).alloc _
  have hz : Wb.heap.size = n + 3 := by rw [hWb, hn]; simp
  have h3 : Wb.heap[n]? = some (.cells #[.pointer (some ⟨d, 0, none⟩)] 26 (0, 0)) := by rw [hWb, hn]; exact heap_old (heap_old (heap_new _ _))
  have h4 : Wb.heap[n + 1]? = some (.cells #[.int .i64 at_] 3 (0, 0)) := by rw [hWb, hn]; exact heap_old (heap_new' (by simp))
  have h6 : Wb.heap[n + 2]? = some (.cells #[.int .i64 0] 38 (0, 0)) := by rw [hWb, hn]; exact heap_new' (by simp)
  rw [← hn]
  clear hWb
  have HN := Lib.hid hn
  have hIb := HI.out.updNo hu
  have hSl : ∀ k, S k → k < n := fun k hk => by have := HI.out.lt k hk; rw [hn]; exact this
  have hKn : ∀ k, K k → k < n ∧ ¬ S k := fun k hk => by rw [hn]; exact hK k hk
  have htb := ht.upd hu
  obtain ⟨m, hSm, hmc⟩ : ∃ m, S m ∧ Wb.cell? ⟨d, 1, none⟩ = some (.map (some m)) := by
    obtain ⟨m, v, hS, hd, _⟩ := hIb
    exact ⟨m, (hS m).2 (.inr (.inl rfl)), cell_at hd 1⟩
  have hmB : m < Wb.heap.size := by have := hSl m hSm; omega
  clear hn
  refine wp_rangeFunc rfl hgf htb (fun k hk => by have := (hKn k hk).1; omega) (fun x => rfl) (LayI Wb d m D S at_ n) (fun c pre W => LayX Wb d m D S at_ n pre W ∧ c = .ret)
    (layI_own hmB) (fun c s W W' row h hg hr => ⟨layX_own hmB s W W' row h.1 hg hr, h.2⟩)
    ⟨D, S, hIb, fun k hk => .inl hk, Upd.refl _ _, by simpa using h4, rfl, by simp, hmc⟩
    (fun x a' W => ∃ g, Wb.heap.size ≤ g ∧ W.heap[g]? = some (.cells (bvs x.1).toArray 80 (0, 0)) ∧ a' = { tmps := #[.pointer (some ⟨d, 0, none⟩), .int .i64 at_, .func (.func gf) #[] lb, .pointer (some ⟨n, 0, none⟩), .pointer (some ⟨n + 1, 0, none⟩), undef, .pointer (some ⟨n + 2, 0, none⟩), .pointer (some ⟨g, 0, none⟩), undef, .func (.func gf) #[] lb, .agg (bvs x.1).toArray, undef, undef, undef, undef, undef, undef, undef, undef, undef, undef, undef], defers := [] })
    (fun x a' s W W' row h hg hr => by obtain ⟨g, h1, h2, h3⟩ := h; exact ⟨g, h1, heapOwn (cs := fun _ => (bvs x.1).toArray) s W W' row h2 hg hr, h3⟩) ?assign ?body ?done ?stop
  case assign =>
    rintro l pre x W K' hI hK'
    simp only [encB]
    have HII := Lib.hid hI
    clear hI
    gi_wp2_with (refine wpListIn_store0 (heap_new _ _) sizeBlock (by simp [x.2]) (by rfl) (bvs_one x.1) rfl rfl (x := .tmp 7) (y := .tmp 10) rfl rfl rfl ?_; intro W3 hg3 hu3 hs3)
    have hu03 : Upd NoS W W3 := ((Upd.refl NoS W).alloc _).trans hu3 (fun k hk e => absurd hk (by rw [show k = W.heap.size from e]; exact Nat.lt_irrefl _))
    obtain ⟨Dp, Sp, i1, i2, i3, i4, i5, i6, i7⟩ := HII.out
    have hBW := i3.size
    exact hK' _ _ (keepsOf hu03 (fun _ _ h => h.elim)) (stayOf hu03 (fun k hk => ⟨by have := (hKn k hk).1; omega, id⟩)) ⟨Dp, Sp, i1.updNo hu03, i2, i3.trNo hu03, hu03.heap i4 id, i5, i6, (sameMap_upd i1 hu03 id).trans i7⟩ ⟨W.heap.size, hBW, hg3, rfl⟩
  case body =>
    rintro l pre x a' W hl hr hI ⟨g, hgB, hg, rfl⟩ hlen
    obtain ⟨Dp, Sp, i1, i2, i3, i4, i5, i6, i7⟩ := hI
    have k3 := i3.heap h3 (fun e => e.elim (fun e => by have := hSl n e; omega) (fun e => by omega))
    have q3 := cell_at k3 0
    have q4 := cell_at i4 0
    simp only [List.getElem?_toArray, List.getElem?_cons_zero] at q3 q4
    have HG := Lib.hid hg
    have I1 := Lib.hid i1
    have I2 := Lib.hid i2
    have I3 := Lib.hid i3
    have I4 := Lib.hid i4
    have I5 := Lib.hid i5
    have I7 := Lib.hid i7
    have hlo : Dp.loose.length ≤ 1000000000 := by omega
    clear hg i1 i2 i3 i4 i5 i7 k3
    gi_wp2_with (first
      | (refine wpListIn_val rfl rfl (by intro c h; cases h) (exec_load0 HG.out Try.underlying80 rfl sizeBlock (by simp [x.2]) rfl rfl) ?_)
      | (gi_at_call 62; refine (CallsIn.inRound l (callsIn_wide.2 (dskWrite W d Dp Sp I1.out _ x.1 x.2 hlo))).mono ?_; rintro e W2 ⟨rfl, hto⟩; refine halted ?_)
      | (refine ⟨trivial, ?_⟩; gi_at_call 62; refine (CallsIn.inRound l (callsIn_wide.2 (dskWrite W d Dp Sp I1.out _ x.1 x.2 hlo))).mono ?_; rintro e W2 ⟨rfl, hto⟩; refine halted ?_))
    unfold Halted
    obtain ⟨S2, j1, j2, j3, j4⟩ := hto
    have hSp1 : ¬ Sp (n + 1) := fun e => (I2.out _ e).elim (fun e => by have := hSl _ e; omega) (fun e => by omega)
    have hSp2 : ¬ Sp (n + 2) := fun e => (I2.out _ e).elim (fun e => by have := hSl _ e; omega) (fun e => by omega)
    have hfoot : ∀ k, S2 k → S k ∨ Wb.heap.size ≤ k := fun k hk => (j2 k hk).elim (I2.out k) (fun h => .inr (Nat.le_trans I3.out.size h.1))
    have hup : Upd (fun k => S k ∨ k = n + 1) Wb W2 := I3.out.trans j3 (fun k hk e => (I2.out k e).elim .inl (fun h => by omega))
    have hc4 := j3.heap I4.out hSp1
    have hc6 := (j3.heap (I3.out.heap h6 (fun e => e.elim (fun e => by have := hSl _ e; omega) (fun e => by omega))) hSp2)
    have hmap := j4.trans I7.out
    have p4 := cell_at hc4 0
    have r4 := free_at hc4 0
    have p6 := cell_at hc6 0
    have r6 := free_at hc6 0
    simp only [List.getElem?_toArray, List.getElem?_cons_zero] at p4 p6
    have HF := Lib.hid hfoot
    have HUP := Lib.hid hup
    have HC4 := Lib.hid hc4
    have HC6 := Lib.hid hc6
    have HMP := Lib.hid hmap
    have J1 := Lib.hid j1
    have J3 := Lib.hid j3
    have hdn : d < n := hSl d HI.out.self
    clear hfoot hup hc4 hc6 hmap j1 j2 j3 j4 hSp1 hSp2 q3 q4
    have hkeep : ∀ W3 : World, (∀ k, k ≠ n + 1 → k ≠ n + 2 → W3.heap[k]? = W2.heap[k]?) → W2.heap.size = W3.heap.size → KeepsFrom Wb.heap.size W W3 ∧ Stay K W W3 := fun W3 h1 h2 => by
      refine ⟨⟨Nat.le_trans J3.out.size (Nat.le_of_eq h2), fun k o hB hk ho => ?_⟩, fun k hk => ?_⟩
      · have hne : ¬ Sp k := by
          intro e
          obtain ⟨m', v, hS', hd', hm', hv', _⟩ := I1.out
          have hcm := cell_at hd' 1
          simp only [Dk.cells, List.getElem?_toArray, List.getElem?_cons_zero, List.getElem?_cons_succ] at hcm
          rw [I7.out] at hcm
          have hmm : m = m' := by simpa using hcm
          rcases (hS' k).1 e with rfl | rfl | h4
          · rw [hd'] at hk; cases hk; cases ho
          · omega
          · rcases hv'.2 with ⟨h5, _⟩ | ⟨g', cap, cur, h5, _, hgg, _⟩
            · rw [h5] at h4; cases h4
            · rw [h5] at h4; cases h4; rw [hgg] at hk; cases hk; cases ho
        rw [h1 k (by omega) (by omega)]
        exact (J3.out.block k (lt_of_block hk) hne).trans hk
      · obtain ⟨h3, h4⟩ := hKn k hk
        rw [h1 k (by omega) (by omega)]
        have := I3.out.size
        exact J3.out.block k (by omega) (fun e => (I2.out k e).elim h4 (fun e => by omega))
    have HK := Lib.hid hkeep
    clear hkeep
    by_cases e0 : (Dp.write (at_ + (pre.length : Int)) x.1).1 = 0
    · rw [e0]
      have E0 := Lib.hid e0
      clear e0
      gi_wp2
      obtain ⟨g1, g2⟩ := HK.out (W2.setCell ⟨n + 1, 0, none⟩ (.int .i64 (at_ + (pre.length : Int) + 1))) (fun k h1 h2 => Below.heap_setCell W2 ⟨n + 1, 0, none⟩ _ k h1) (by simp [World.setCell])
      have hset : Upd (fun k => k = n + 1) W2 (W2.setCell ⟨n + 1, 0, none⟩ (.int .i64 (at_ + (pre.length : Int) + 1))) := (Upd.refl _ W2).setCell _ _ (fun _ => rfl)
      refine ⟨g1, g2, _, S2, J1.out.upd hset (fun k hk e => (HF.out k hk).elim (fun h => by have := hSl k h; omega) (fun h => by omega)), HF.out, HUP.out.tr (hset.mono (fun k _ h => .inr h)), ?_, ?_, ?_, (sameMap_upd J1.out hset (fun e => by omega)).trans HMP.out⟩
      · rw [heap_set HC4.out]
        simp
        omega
      · rw [List.map_append]
        have := Dk.laid_snoc (b := x.1) I5.out (by simpa using E0.out)
        simpa using this
      · have := Dk.write_loose Dp (at_ + (pre.length : Int)) x.1
        simp
        omega
    · have hne : ((Dp.write (at_ + (pre.length : Int)) x.1).1 == 0) = false := by simpa using e0
      have E0 := Lib.hid e0
      clear e0
      gi_wp2
      obtain ⟨g1, _⟩ := HK.out (W2.setCell ⟨n + 2, 0, none⟩ (.int .i64 (Dp.write (at_ + (pre.length : Int)) x.1).1)) (fun k h1 h2 => Below.heap_setCell W2 ⟨n + 2, 0, none⟩ _ k h2) (by simp [World.setCell])
      have hset : Upd (fun k => k = n + 2) W2 (W2.setCell ⟨n + 2, 0, none⟩ (.int .i64 (Dp.write (at_ + (pre.length : Int)) x.1).1)) := (Upd.refl _ W2).setCell _ _ (fun _ => rfl)
      exact ⟨g1, ⟨pre, x, Dp, S2, rfl, I5.out, E0.out, J1.out.upd hset (fun k hk e => (HF.out k hk).elim (fun h => by have := hSl k h; omega) (fun h => by omega)), HF.out, (HUP.out.mono (T := fun k => S k ∨ k = n + 1 ∨ k = n + 2) (fun k _ h => h.imp id .inl)).tr (hset.mono (fun k _ h => .inr (.inr h))),
        by rw [heap_set HC6.out]; rfl, (sameMap_upd J1.out hset (fun e => by omega)).trans HMP.out⟩, rfl⟩
  case done =>
    rintro D' W hD hI hDk
    obtain ⟨Dp, Sp, i1, i2, i3, i4, i5, i6, i7⟩ := hI
    have k3 := i3.heap h3 (fun e => e.elim (fun e => by have := hSl n e; omega) (fun e => by omega))
    have k6 := i3.heap h6 (fun e => e.elim (fun e => by have := hSl _ e; omega) (fun e => by omega))
    have q3 := cell_at k3 0
    simp only [List.getElem?_toArray, List.getElem?_cons_zero] at q3
    have I1 := Lib.hid i1
    have I2 := Lib.hid i2
    have I3 := Lib.hid i3
    have I5 := Lib.hid i5
    have I7 := Lib.hid i7
    have HDk := Lib.hid hDk
    have K6 := Lib.hid k6
    clear i1 i2 i3 i4 i5 i7 k3 k6 hDk
    go_wp2_with (go_at_call 63; refine (dskSync _ d Dp Sp I1.out (by omega)).mono ?_; rintro e W2 ⟨rfl, hto⟩; refine halted ?_)
    unfold Halted
    obtain ⟨S2, j1, j2, j3, j4⟩ := hto
    have hSp2 : ¬ Sp (n + 2) := fun e => (I2.out _ e).elim (fun e => by have := hSl _ e; omega) (fun e => by omega)
    have hSpD : ¬ Sp D' := fun e => by
      have hh := HDk.out
      obtain ⟨m', v, hS', hd', hm', hv', _⟩ := I1.out
      rcases (hS' D').1 e with rfl | rfl | h4
      · rw [hd'] at hh; cases hh
      · obtain ⟨_, _, hmh, _⟩ := hm'; rw [hmh] at hh; cases hh
      · rcases hv'.2 with ⟨h5, _⟩ | ⟨g', cap, cur, h5, _, hgg, _⟩
        · rw [h5] at h4; cases h4
        · rw [h5] at h4; cases h4; rw [hgg] at hh; cases hh
    have c6 := j3.heap K6.out hSp2
    have p6 := cell_at c6 0
    have r6 := free_at c6 0
    simp only [List.getElem?_toArray, List.getElem?_cons_zero] at p6
    have hDk2 := j3.heap HDk.out hSpD
    have C6 := Lib.hid c6
    have DK2 := Lib.hid hDk2
    have J1 := Lib.hid j1
    have J2 := Lib.hid j2
    have J3 := Lib.hid j3
    have J4 := Lib.hid j4
    clear c6 hDk2 j1 j2 j3 j4 q3 hSpD
    go_wp2
    obtain ⟨W3, hW3⟩ : ∃ W3, W3 = W2.setCell ⟨n + 1 + 1, 0, none⟩ (.int .i64 Dp.sync.1) := ⟨_, rfl⟩
    rw [← hW3]
    have hset : Upd (fun k => k = n + 2) W2 W3 := by rw [hW3]; exact (Upd.refl _ W2).setCell _ _ (fun _ => rfl)
    have hS2 : ∀ k, S2 k → S k ∨ Wb.heap.size ≤ k := fun k hk => (J2.out k hk).elim (I2.out k) (fun h => .inr (Nat.le_trans I3.out.size h.1))
    have hI3 := J1.out.upd hset (fun k hk e => (hS2 k hk).elim (fun h => by have := hSl k h; omega) (fun h => by omega))
    have hdn : d < n := hSl d HI.out.self
    have hm3 : W3.cell? ⟨d, 1, none⟩ = some (.map (some m)) := by
      have h1 : W2.cell? ⟨d, 1, none⟩ = some (.map (some m)) := J4.out.trans I7.out
      exact (sameMap_upd J1.out hset (fun e => by omega)).trans h1
    have hg3 : W3.heap[n + 2]? = some (.cells #[.int .i64 Dp.sync.1] 38 (0, 0)) := by rw [hW3, heap_set C6.out]; rfl
    have hD3 := hset.heap DK2.out (by omega)
    have hu3 : Upd S w W3 := (((hu.mono (T := S) (fun _ _ h => h.elim)).trans I3.out (fun k hk e => e.elim id (fun e => by have := HN.out; omega))).trans J3.out (fun k hk e => (I2.out k e).elim id (fun h => by have := HN.out; omega))).trans hset (fun k hk e => by have := HN.out; omega)
    have hu4 : Upd (fun k => k = D') W3 (W3.putObj D' (.deferred none)) := (Upd.refl _ W3).grown (grownBy_putObj' W3 D' (.deferred none)) (fun k hk _ => (Option.some.inj hk).symm)
    have hS2D : ¬ S2 D' := fun e => by
      have hh := hD3
      obtain ⟨m', v, hS', hd', hm', hv', _⟩ := hI3
      rcases (hS' D').1 e with rfl | rfl | h4
      · rw [hd'] at hh; cases hh
      · obtain ⟨_, _, hmh, _⟩ := hm'; rw [hmh] at hh; cases hh
      · rcases hv'.2 with ⟨h5, _⟩ | ⟨g', cap, cur, h5, _, hgg, _⟩
        · rw [h5] at h4; cases h4
        · rw [h5] at h4; cases h4; rw [hgg] at hh; cases hh
    have hI4 := hI3.upd hu4 (fun k hk e => hS2D (by rw [← show k = D' from e]; exact hk))
    have hg4 := cell_at (hu4.heap hg3 (fun e => by omega)) 0
    simp only [List.getElem?_toArray, List.getElem?_cons_zero] at hg4
    have hm4 := (sameMap_upd hI3 hu4 (fun e => by omega)).trans hm3
    refine ⟨by simp, .inl ⟨_, _, rfl, run_takeDeferred hD3, ?_⟩⟩
    rw [Dk.lays_done I5.out]
    refine ⟨.int .i64 Dp.sync.1, by simp [results, Try.results42, go_sem, hg4], rfl, S2, hI4, foot_cells hI4 hm4 HI.out.self hSm hS2 (by have := HN.out; omega), hu3.trans hu4 (fun k hk e => by have := HN.out; omega), ?_⟩
    exact hm4.trans (hmc.symm.trans (sameMap_upd HI.out hu id))
  case stop =>
    rintro D' c pre W hD hpre ⟨⟨p0, x, D0, Sp, rfl, i2, i3, i4, i5, i6, i7, i8⟩, rfl⟩ hDk
    obtain ⟨rest, hrest⟩ := hpre
    have hlay : D.lays at_ (xs.map Subtype.val) = D0.write (at_ + (p0.length : Int)) x.1 := by
      have := Dk.lays_fails (b := x.1) (rest := rest.map Subtype.val) i2 (by simpa using i3)
      rw [← hrest]
      simpa using this
    have I4 := Lib.hid i4
    have I5 := Lib.hid i5
    have I6 := Lib.hid i6
    have I7 := Lib.hid i7
    have I8 := Lib.hid i8
    have HL := Lib.hid hlay
    have HDk := Lib.hid hDk
    clear i2 i3 i4 i5 i6 i7 i8 hlay hDk hrest
    have hdn : d < n := hSl d HI.out.self
    have hS2D : ¬ Sp D' := fun e => by
      have hh := HDk.out
      obtain ⟨m', v, hS', hd', hm', hv', _⟩ := I4.out
      rcases (hS' D').1 e with rfl | rfl | h4
      · rw [hd'] at hh; cases hh
      · obtain ⟨_, _, hmh, _⟩ := hm'; rw [hmh] at hh; cases hh
      · rcases hv'.2 with ⟨h5, _⟩ | ⟨g', cap, cur, h5, _, hgg, _⟩
        · rw [h5] at h4; cases h4
        · rw [h5] at h4; cases h4; rw [hgg] at hh; cases hh
    have hu3 : Upd S w W := (hu.mono (T := S) (fun _ _ h => h.elim)).trans I6.out (fun k hk e => e.elim id (fun e => by have := HN.out; omega))
    have hu4 : Upd (fun k => k = D') W (W.putObj D' (.deferred none)) := (Upd.refl _ W).grown (grownBy_putObj' W D' (.deferred none)) (fun k hk _ => (Option.some.inj hk).symm)
    have hI4 := I4.out.upd hu4 (fun k hk e => hS2D (by rw [← show k = D' from e]; exact hk))
    have hg4 := cell_at (hu4.heap I7.out (fun e => by omega)) 0
    simp only [List.getElem?_toArray, List.getElem?_cons_zero] at hg4
    have hm4 := (sameMap_upd I4.out hu4 (fun e => by omega)).trans I8.out
    go_wp2
    refine ⟨by simp, .inl ⟨_, _, rfl, run_takeDeferred HDk.out, ?_⟩⟩
    rw [HL.out]
    refine ⟨.int .i64 (D0.write (at_ + (p0.length : Int)) x.1).1, by simp [results, Try.results42, go_sem, hg4], rfl, Sp, hI4, foot_cells hI4 hm4 HI.out.self hSm I5.out (by have := HN.out; omega), hu3.trans hu4 (fun k hk e => by have := HN.out; omega), ?_⟩
    exact hm4.trans (hmc.symm.trans (sameMap_upd HI.out hu id))
end Go.Proofs.Ytomgdfoahfhijaa
