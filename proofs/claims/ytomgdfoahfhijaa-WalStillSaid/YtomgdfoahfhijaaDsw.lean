/- disk: Write. -/
import Derived.Test.YtomgdfoahfhijaaBld
import Derived.Test.YtomgdfoahfhijaaShe
import Derived.Maps.AppendAt
set_option linter.unusedVariables false
set_option linter.unusedSimpArgs false
namespace Go.Proofs.Ytomgdfoahfhijaa
open Go.RowKit

theorem exec_build {P : Program} {w : World} {o : Oper} {ev : Operand → Value} {ty : TypeId} {ps : List (Nat × Operand)} {cells : Array Value} (ho : o.op = .build ty ps.toArray) (h : P.built ty (ps.map fun p => (p.1, ev p.2)) = some cells) :
    (execOp ev o).run P w = .ok (.value (.agg cells)) w := by
  have h' : P.built ty (ps.toArray.map fun (i, x) => (i, ev x)).toList = some cells := by
    rw [← h]
    congr 1
    simp
  unfold execOp
  simp only [ho, Sem.run_bind, run_build w ty _ cells h', Result.andThen_ok, Sem.run_pure]
/-- A slice literal of one element. -/
theorem wp_sliceOne {P : Program} {o : Oper} {a : Act} {w : World} {K : Act → World → Prop} {Q : Exit → Act → World → Prop} {t e size : Nat} {x : Operand} {cells : Array Value} {ie : TypeInfo} {z v : Value} (ho : o.op = .buildSlice t 1 #[(0, x)]) (hx : a.eval x = v)
    (hu : P.underlying t = some (.slice e)) (hie : P.info? e = some ie) (hz : ie.zero = some z) (hs : ie.size = size) (h0 : 0 < size) (h1 : size ≤ 1000000)
    (hf : ∀ zs : Array Value, zs.size = size → Instr.fill (fun i => some (i * size, size)) zs [(0, v)] = some cells)
    (h : K (a.put o.dst (.slice (some ⟨w.heap.size, 0, none⟩) 1 1)) (w.alloc (.cells cells e))) : o.wp P a w K Q := by
  subst hs
  refine wp_buildSlice t e 1 _ ho cells ie z hu hie hz (by omega) (by omega) ?_ h
  have := hf ((Array.range (1 * ie.size)).map (z.cells[· % z.cells.size]!)) (by simp)
  simpa [hx] using this
theorem wp_app {P : Program} {w w' : World} {o : Oper} {a : Act} {K : Act → World → Prop} {Q : Exit → Act → World → Prop} {v vs vx : Value} (s x : Operand) (ts : Array TypeId)
    (hop : o.op = Op.call { callee := Callee.builtin Builtin.append, args := #[s, x], argTypes := ts }) (hs : a.eval s = vs) (hx : a.eval x = vx) (hrun : (Builtin.append_ ts o.type #[vs, vx]).run P w = .ok v w')
    (hK : K (a.put o.dst v) w') : o.wp P a w K Q := by
  unfold Oper.wp
  simp [execOp, hop, resolve, invoke, builtin, hs, hx, hrun, Result.andThen]
  exact hK
theorem sizeBlock : (Try.prog.info? 80).map (·.size) = some 64 := by kernel_rfl
theorem infoW : (Try.prog.info? 108).map (fun i => (i.size, i.bytes, i.zero.map (fun z => z.cells.size))) = some (65, 72, some 65) := by kernel_rfl
theorem infoW_parts : ∃ i z, Try.prog.info? 108 = some i ∧ i.zero = some z ∧ i.size = 65 ∧ i.bytes = 72 ∧ z.cells.size = 65 := by
  obtain ⟨i, hi, h⟩ := Option.map_eq_some_iff.1 infoW
  simp only [Prod.mk.injEq] at h
  obtain ⟨z, hz, hzs⟩ := Option.map_eq_some_iff.1 h.2.2
  exact ⟨i, z, hi, hz, h.1, h.2.1, hzs⟩
theorem size_wrote {p : Int × List UInt8} (h : p.2.length = 64) : (wrote p).toArray.size = 65 := by simp [wrote, h]
theorem fillWrote {p : Int × List UInt8} (h : p.2.length = 64) (zs : Array Value) (hz : zs.size = 65) : Instr.fill (fun i => some (i * 65, 65)) zs [(0, .agg (wrote p).toArray)] = some (wrote p).toArray := by
  rw [fill_one (off := 0) (size := 65) rfl (by simpa [Value.cells] using size_wrote h) (by omega), Instr.fill.eq_1]
  refine congrArg some (Array.ext' ?_)
  rw [List.toList_toArray, List.take_zero, List.drop_of_length_le (by simp; omega), List.append_nil]
  rfl
theorem rd_new' (w : World) (e size n : Nat) (cs : Array Value) (hn : cs.size = n * size) (hm : n ≤ maxLen) : Rd (w.alloc (.cells cs e)) e size (.slice (some ⟨w.heap.size, 0, none⟩) n n) n cs.toList :=
  ⟨by simp [hn], .inr ⟨_, _, _, _, _, rfl, Nat.le_refl _, hm, heap_new _ _, by rw [List.drop_zero, List.take_of_length_le (by simp [hn])]⟩⟩
theorem one_wrote (p : Int × List UInt8) : ∀ u ∈ wrote p, u.oneCell' = true := by
  intro u hu
  rcases List.mem_cons.1 hu with rfl | h
  · rfl
  · exact bvs_one _ u h
theorem length_loose {l : List (Int × List UInt8)} (h : ∀ p ∈ l, p.2.length = 64) : (l.flatMap wrote).length = l.length * 65 := by
  induction l with
  | nil => rfl
  | cons p l ih =>
    rw [List.flatMap_cons, List.length_append, ih (fun q hq => h q (List.mem_cons_of_mem _ hq))]
    simp [wrote, h p (List.mem_cons_self ..)]
    omega

/-- Block k is new in w', and holds cells. -/
def NewCells (w w' : World) (k : Nat) : Prop := w.heap.size ≤ k ∧ ∃ cs t, w'.heap[k]? = some (.cells cs t (0, 0))
theorem NewCells.to {w w1 w2 w' : World} {k : Nat} {T : Nat → Prop} (h : NewCells w1 w2 k) (h1 : w.heap.size ≤ w1.heap.size) (hu : Upd T w2 w') (hT : ¬ T k) : NewCells w w' k := by
  obtain ⟨h2, cs, t, h3⟩ := h
  exact ⟨Nat.le_trans h1 h2, cs, t, hu.heap h3 hT⟩
set_option maxRecDepth 100000 in
set_option maxHeartbeats 2000000 in
theorem dskWrite1 (w : World) (d : Nat) (D : Dk) (S : Nat → Prop) (h : IsDisk w d D S) (b0 b1 b2 : Nat) (at_ : Int) (b : List UInt8) (hb : b.length = 64) (hl : D.loose.length ≤ 1000000000)
    (h0 : w.heap[b0]? = some (.cells #[.pointer (some ⟨d, 0, none⟩)] 26 (0, 0))) (h1 : w.heap[b1]? = some (.cells #[.int .i64 at_] 3 (0, 0))) (h2 : w.heap[b2]? = some (.cells (bvs b).toArray 80 (0, 0))) :
    Calls Try.prog 78 #[.pointer (some ⟨b0, 0, none⟩), .pointer (some ⟨b1, 0, none⟩), .pointer (some ⟨b2, 0, none⟩)] w fun e w' => e = .returned (.tuple #[]) ∧ ∃ S2, IsDisk w' d { D with loose := D.loose ++ [(at_, b)] } S2 ∧ (∀ k, S2 k → S k ∨ NewCells w w' k) ∧ Upd S w w' ∧ SameMap d w w' := by
  obtain ⟨m, v, hS, hd, hm, hv, ho⟩ := h
  obtain ⟨iw, zw, hiw, hzw, hiz, hib, hzs⟩ := infoW_parts
  obtain ⟨a, c, rfl⟩ := own_shape hv
  have MK : Hid (∀ w', Upd (fun k => (Value.slice a D.loose.length c).ownBlock = some k) w w' → w'.cell? ⟨b0, 0, none⟩ = some (.pointer (some ⟨d, 0, none⟩)) ∧ w'.cell? ⟨b1, 0, none⟩ = some (.int .i64 at_) ∧ w'.heap[b2]? = some (.cells (bvs b).toArray 80 (0, 0)) ∧
      w'.cell? ⟨d, 2, none⟩ = some (.slice a D.loose.length c) ∧ w'.frozen? ⟨d, 2, none⟩ = false ∧ w'.heap[d]? = some (.cells (D.cells m (.slice a D.loose.length c)) 102 (0, 0))) := Lib.hid fun w' hu => by
    have k0 := hu.heap h0 (fun e => own_ne hv h0 (by decide) _ e rfl)
    have k1 := hu.heap h1 (fun e => own_ne hv h1 (by decide) _ e rfl)
    have k2 := hu.heap h2 (fun e => own_ne hv h2 (by decide) _ e rfl)
    have kd := hu.heap hd (fun e => own_ne hv hd (by decide) _ e rfl)
    exact ⟨cell_at k0 0, cell_at k1 0, k2, cell_at kd 2, free_at kd 2, kd⟩
  have HV := Lib.hid hv
  have HD := Lib.hid (And.intro hS (And.intro hd (And.intro hm ho)))
  clear hS hd hm hv ho h0 h1 h2
  go_enter Try.func78, Try.ntmps78
  refine wp_region_canon (fun w' => Upd (fun k => (Value.slice a D.loose.length c).ownBlock = some k) w w') 11 4 [9, 10] [0, 1, 2, 3, 4, 5, 6, 7, 8, 9, 10] rfl (by kernel_rfl) (by decide) (by kernel_rfl) (by kernel_rfl) (by kernel_rfl) (by kernel_rfl) (by kernel_rfl) ((Upd.refl _ _).drew) ?_
  simp only [List.take_succ_cons, List.take_zero, List.drop_succ_cons, List.drop_zero, pick, List.getElem?_cons_succ, List.getElem?_cons_zero, Nat.reduceBEq, List.contains_cons, List.contains_nil, Bool.or_self, Bool.or_false, Bool.or_true, Bool.true_or, Bool.false_or]
  iterate 7 (refine wpD_quiet ?_ (fun w' hS => ?_) ?_; rotate_left; (· obtain ⟨f0, f1, f2, f3, f4, f5⟩ := MK.out w' hS; go_simp; (try with_reducible rfl)); (try simp only [Act.put, List.setIfInBounds_toArray, List.set_cons_succ, List.set_cons_zero]))
  refine wpD_quiet _ (fun w' hS => exec_load0 (MK.out w' hS).2.2.1 Try.underlying80 rfl sizeBlock (by simp [hb]) rfl rfl) ?_
  simp only [Act.put, List.setIfInBounds_toArray, List.set_cons_succ, List.set_cons_zero]
  refine wpD_quiet _ (fun w' hS => exec_build rfl (builtWrote at_ b hb)) ?_
  simp only [Act.put, List.setIfInBounds_toArray, List.set_cons_succ, List.set_cons_zero]
  refine wpD_loud (fun K hK => ?_)
  refine wp_sliceOne (x := .tmp 11) rfl rfl Try.underlying96 hiw hzw hiz (by omega) (by omega) (fun zs hz => fillWrote (p := (at_, b)) hb zs hz) ?_
  refine hK _ _ ((Upd.refl _ _).drew.alloc _) ?_
  simp only [Act.put, List.setIfInBounds_toArray, List.set_cons_succ, List.set_cons_zero]
  refine wpD_loud (fun K2 hK2 => ?_)
  obtain ⟨v2, w2, hrun2, hown2, hgr2, _, hblk⟩ := run_append_own_at (P := Try.prog) (w.drew.alloc (.cells (wrote (at_, b)).toArray 108)) 0 96 96 108 iw zw 65 72 Try.underlying96 hiw hzw hiz hib hzs (by decide) _ _ _ ((own_upd HV.out (Upd.refl NoS w).drew (fun _ _ h => h)).alloc (.cells (wrote (at_, b)).toArray 108)) ⟨w.heap.size, 0, none⟩ 1 1 (wrote (at_, b)) (by simp [wrote, hb]) (rd_new' w.drew 108 65 1 (wrote (at_, b)).toArray (by simpa using size_wrote (p := (at_, b)) hb) (by decide)).cells (one_wrote _) (by unfold maxLen; omega) (by omega) (Nat.zero_le _)
  obtain ⟨a2, c2, rfl⟩ := own_shape hown2
  refine wp_app _ _ _ rfl rfl rfl hrun2 ?_
  have hu2 : Upd (fun k => (Value.slice a D.loose.length c).ownBlock = some k) w w2 := ((Upd.refl _ _).drew.alloc _).grown hgr2 (fun k hk _ => hk)
  refine hK2 _ _ hu2 ?_
  refine wpD_nil ?_
  simp only [Act.put, List.setIfInBounds_toArray, List.set_cons_succ, List.set_cons_zero]
  obtain ⟨f0, f1, f2, f3, f4, f5⟩ := MK.out w2 hu2
  have HG := Lib.hid f5
  have HO := Lib.hid hown2
  have HU := Lib.hid hu2
  have HB := Lib.hid hblk
  clear hown2 hu2 hblk hrun2 hgr2 f2 f5 hK hK2
  go_wp2
  refine NoPanic.normal ?_
  go_wp2
  go_end0
  obtain ⟨hS, hd, hm, ho⟩ := HD.out
  have hmd : m ≠ d := by
    obtain ⟨arr, clock, hh, _⟩ := hm
    intro e; rw [e, hd] at hh; cases hh
  have hma : ¬ (Value.slice a D.loose.length c).ownBlock = some m := by
    intro e
    obtain ⟨arr, clock, hh, _⟩ := hm
    rcases HV.out.2 with ⟨h1, _⟩ | ⟨g, cap, cur, hv, _, hg, _⟩
    · rw [h1] at e; cases e
    · rw [hv] at e; cases e; rw [hg] at hh; cases hh
  have hu3 : Upd (fun k => (Value.slice a D.loose.length c).ownBlock = some k ∨ k = d) w (w2.setCell ⟨d, 2, none⟩ (.slice a2 (D.loose.length + 1) c2)) := (HU.out.mono (fun _ _ h => .inl h)).setCell _ _ (fun _ => .inr rfl)
  have hcat : D.loose.flatMap wrote ++ wrote (at_, b) = (D.loose ++ [(at_, b)]).flatMap wrote := by simp
  refine ⟨rfl, fun k => k = d ∨ k = m ∨ (Value.slice a2 (D.loose.length + 1) c2).ownBlock = some k, ⟨m, _, fun k => Iff.rfl, ?_, hm.upd hu3 (fun e => e.elim hma hmd), ?_, ?_⟩, ?_, hu3.mono (fun k _ h => (hS k).2 (h.elim (fun h => .inr (.inr h)) .inl)), sameMap_of (D' := { D with loose := D.loose ++ [(at_, b)] }) hd (by rw [heap_set HG.out]; rfl)⟩
  · rw [heap_set HG.out]; rfl
  · rw [List.length_append, ← hcat]
    exact own_upd HO.out ((Upd.refl (OneS d) w2).setCell ⟨d, 2, none⟩ _ (fun _ => rfl)) (fun k hk e => own_ne HO.out HG.out (by decide) k hk e)
  · exact ⟨ho.size1, ho.size2, ho.firm, fun p hp => (List.mem_append.1 hp).elim (ho.loose p) (fun h => by rw [List.mem_singleton.1 h]; exact hb), ho.arms, ho.fails, ho.ops⟩
  · rintro k (rfl | rfl | h)
    · exact .inl ((hS _).2 (.inl rfl))
    · exact .inl ((hS _).2 (.inr (.inl rfl)))
    · rcases HB.out with h1 | h1
      · exact .inl ((hS _).2 (.inr (.inr (h1 ▸ h))))
      · rw [h1] at h
        have hk : k = (w.drew.alloc (.cells (wrote (at_, b)).toArray 108)).heap.size := (Option.some.inj h).symm
        refine .inr ⟨by rw [hk]; simp, ?_⟩
        rcases HO.out.2 with ⟨h5, _⟩ | ⟨g, cap, cur, hv, _, hg, _⟩
        · rw [h5] at h1; simp [Value.ownBlock] at h1
        · rw [hv] at h1
          have hgk : g = k := by rw [hk]; exact Option.some.inj h1
          refine ⟨cur, 108, ?_⟩
          rw [← hgk]
          refine ((Upd.refl (OneS d) w2).setCell ⟨d, 2, none⟩ _ (fun _ => rfl)).heap hg ?_
          intro e
          have := own_ne HO.out HG.out (by decide) g (by rw [hv]; rfl)
          exact this e

def Dk.write (D : Dk) (at_ : Int) (b : List UInt8) : Int × Dk :=
  if (D.ask at_ true).1 = 0 then (0, ({ (D.ask at_ true).2 with loose := (D.ask at_ true).2.loose ++ [(at_, b)] } : Dk).op) else D.ask at_ true
theorem Dk.ask_loose (D : Dk) (at_ : Int) (lays : Bool) : (D.ask at_ lays).2.loose = D.loose ∧ (D.ask at_ lays).2.firm = D.firm ∧ (D.ask at_ lays).2.size = D.size ∧ (D.ask at_ lays).2.ops = D.ops := by
  unfold Dk.ask
  repeat' split
  all_goals exact ⟨rfl, rfl, rfl, rfl⟩
/-- What a call on the disk at block d leaves. -/
def DskTo (w w' : World) (d : Nat) (D' : Dk) (S : Nat → Prop) : Prop := ∃ S', IsDisk w' d D' S' ∧ (∀ k, S' k → S k ∨ NewCells w w' k) ∧ Upd S w w' ∧ SameMap d w w'
theorem sameMap_upd {w w' : World} {d : Nat} {D : Dk} {S T : Nat → Prop} (h : IsDisk w d D S) (hu : Upd T w w') (hT : ¬ T d) : SameMap d w w' := by
  obtain ⟨m, v, hS, hd, _⟩ := h
  exact sameMap_of (D' := D) hd (hu.heap hd hT)
theorem box_cells {w : World} {v : Value} {t : TypeId} : (w.alloc (.cells #[v] t)).heap[w.heap.size]? = some (.cells #[v] t (0, 0)) := heap_new _ _
theorem calls_name {P : Program} {f : FuncId} {args : Array Value} {K : Ending → World → Prop} {w : World} (h : ∀ W, W = w → Calls P f args W K) : Calls P f args w K := h w rfl
def entersAt (P : Program) (fn : Nat) : Bool := match P.funcs[fn]? with | some f => f.body.isSome && !(f.name == "runtime.NumGoroutine") | none => false
theorem callFunc_at {P : Program} {fn : Nat} (h : entersAt P fn = true) (cap : Array Value) (w : World) : (callFunc fn cap).run P w = .ok (.enter fn cap) w := by
  unfold entersAt at h
  cases hf : P.funcs[fn]? with
  | none => rw [hf] at h; cases h
  | some f =>
    rw [hf] at h
    simp only [Bool.and_eq_true, Bool.not_eq_true'] at h
    have h1 : f.name ≠ "runtime.NumGoroutine" := by simpa using h.2
    obtain ⟨c, hc⟩ := Option.isSome_iff_exists.1 h.1
    simp [callFunc, hf, h1, hc]
set_option maxRecDepth 100000 in
set_option maxHeartbeats 2000000 in
theorem dskWrite (w : World) (d : Nat) (D : Dk) (S : Nat → Prop) (h : IsDisk w d D S) (at_ : Int) (b : List UInt8) (hb : b.length = 64) (hl : D.loose.length ≤ 1000000000) :
    Calls Try.prog 62 #[.pointer (some ⟨d, 0, none⟩), .int .i64 at_, .agg (bvs b).toArray] w fun e w' => e = .returned (.int .i64 (D.write at_ b).1) ∧ DskTo w w' d (D.write at_ b).2 S := by
  have HI := Lib.hid h
  go_enter Try.func62, Try.ntmps62
  go_wp2_with (go_at_call 70; refine halted ?_)
  unfold Halted
  refine calls_name ?_
  intro W0 hW0
  have hu0 : Upd NoS w W0 := by rw [hW0]; exact (((Upd.refl NoS w).alloc _).alloc _).alloc _
  have hb0 : W0.heap[w.heap.size]? = some (.cells #[.pointer (some ⟨d, 0, none⟩)] 26 (0, 0)) := by rw [hW0]; exact heap_old (heap_old (heap_new _ _))
  have hb1 : W0.heap[w.heap.size + 1]? = some (.cells #[.int .i64 at_] 3 (0, 0)) := by rw [hW0]; exact heap_old (heap_new' (by simp))
  have hb2 : W0.heap[w.heap.size + 1 + 1]? = some (.cells (bvs b).toArray 80 (0, 0)) := by rw [hW0]; exact heap_new' (by simp)
  have hI0 := HI.out.updNo hu0
  clear hW0
  obtain ⟨hl1, _, _, _⟩ := Dk.ask_loose D at_ true
  have hdl := HI.out.lt d HI.out.self
  refine (dskAsked W0 d D S hI0 at_ true _ _ (fun w1 D2 S2 w2 => D2 = { (D.ask at_ true).2 with loose := (D.ask at_ true).2.loose ++ [(at_, b)] } ∧ (∀ k, S2 k → S k ∨ NewCells w1 w2 k) ∧ Upd S w1 w2 ∧ SameMap d w1 w2) (callFunc_at (by kernel_rfl) _) (fun _ w1 hI1 hu1 hs1 => ?_)).mono ?_
  · refine (dskWrite1 w1 d _ S hI1 _ _ _ at_ b hb (by rw [hl1]; exact hl) (hu1.heap hb0 (by simp only [OneS]; omega)) (hu1.heap hb1 (by simp only [OneS]; omega)) (hu1.heap hb2 (by simp only [OneS]; omega))).mono ?_
    rintro e w2 ⟨rfl, S2, h1, h2, h3, h4⟩
    exact ⟨rfl, _, S2, h1, rfl, h2, h3, h4⟩
  · rintro e w3 ⟨rfl, hp⟩
    go_wp2
    go_ret
    unfold AskPost at hp
    unfold Dk.write
    have hdS := HI.out.self
    by_cases h0 : (D.ask at_ true).1 = 0
    · rw [if_pos h0]
      obtain ⟨D2, S2, w1, w2, hu1, hs1, ⟨rfl, hS2, hu2, hm2⟩, hI3, hu3, hs3, hm1, hm3⟩ := hp.2 h0
      have hm : ∀ {a b : World}, Upd (OneS d) a b → Upd S a b := fun h => h.mono (fun k _ e => by rw [show k = d from e]; exact hdS)
      refine ⟨by rw [h0]; rfl, S2, hI3, fun k hk => (hS2 k hk).imp id (fun h => h.to (by have := hu0.size; omega) hu3 (fun e => by have h7 := h.1; rw [show k = d from e] at h7; have := hu0.size; omega)), ?_⟩
      exact ⟨(((hu0.mono (fun _ _ h => h.elim)).tr (hm hu1)).tr hu2).tr (hm hu3), ((hm3.trans hm2).trans hm1).trans (sameMap_upd HI.out hu0 id)⟩
    · rw [if_neg h0]
      obtain ⟨h1, h2, h3, h4⟩ := hp.1 h0
      exact ⟨rfl, S, h1, fun k hk => .inl hk, (hu0.mono (fun _ _ h => h.elim)).tr (h2.mono (fun k _ e => by rw [show k = d from e]; exact hdS)), h4.trans (sameMap_upd HI.out hu0 id)⟩
end Go.Proofs.Ytomgdfoahfhijaa
