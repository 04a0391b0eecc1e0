/- disk: what a sector holds; Read. -/
import Derived.Test.YtomgdfoahfhijaaRng
import Derived.Scope
set_option linter.unusedVariables false
set_option linter.unusedSimpArgs false
namespace Go.Proofs.Ytomgdfoahfhijaa
open Go.RowKit
attribute [local go_sem] Oper.semAt_some

abbrev Wr := { p : Int × List UInt8 // p.2.length = 64 }
theorem exWr : ∀ l : List (Int × List UInt8), (∀ p ∈ l, p.2.length = 64) → ∃ xs : List Wr, xs.map Subtype.val = l
  | [], _ => ⟨[], rfl⟩
  | p :: l, h => by
    obtain ⟨xs, hx⟩ := exWr l (fun q hq => h q (List.mem_cons_of_mem _ hq))
    exact ⟨⟨p, h p (List.mem_cons_self ..)⟩ :: xs, by rw [List.map_cons, hx]⟩
def encW (x : Wr) : Array Value := #[.agg (wrote x.1).toArray]

set_option maxRecDepth 100000 in
set_option maxHeartbeats 4000000 in
theorem backTells (w : World) (d : Nat) (D : Dk) (S : Nat → Prop) (h : IsDisk w d D S) (Bs : Nat) (hBs : w.heap[Bs]? = some (.cells #[.pointer (some ⟨d, 0, none⟩)] 124 (0, 0))) (hl : D.loose.length ≤ 1000000000)
    (xs : List Wr) (hxs : xs.map Subtype.val = D.loose.reverse) :
    Tells Try.prog 89 #[.pointer (some ⟨Bs, 0, none⟩)] encW (fun k => S k ∨ k = Bs) xs w := by
  intro l J Jx W hW hJ hJx hY h0
  have hlt := h.lt
  have hBl := lt_of_heap hBs
  obtain ⟨m, v, hS, hd, hm, hv, ho⟩ := h
  obtain ⟨a, c, rfl⟩ := own_shape hv
  have hlen : xs.length = D.loose.length := by simpa using congrArg List.length hxs
  have hat : ∀ k, (hk : k < D.loose.length) → (hk' : xs.length - (k + 1) < xs.length) → (xs[xs.length - (k + 1)]).1 = D.loose[k] := fun k hk hk' => by
    have := congrArg (fun l => l[xs.length - (k + 1)]?) hxs
    simp only [List.getElem?_map, List.getElem?_eq_getElem hk', Option.map_some] at this
    rw [List.getElem?_reverse (by omega)] at this
    rw [show D.loose.length - 1 - (xs.length - (k + 1)) = k by omega, List.getElem?_eq_getElem hk] at this
    exact Option.some.inj this
  have hrow : ∀ k, k < D.loose.length → ∃ g cur, a = some ⟨g, 0, none⟩ ∧ S g ∧ w.heap[g]? = some (.cells cur 108 (0, 0)) ∧ k * 65 + 65 ≤ cur.size ∧ ((cur.toList.drop (k * 65)).take 65) = (D.loose.flatMap wrote |>.drop (k * 65)).take 65 := fun k hk => by
    rcases hv.2 with ⟨h1, h2⟩ | ⟨g, cap, cur, hv', _, hg, hnc, _, hcs, ht⟩
    · omega
    · cases hv'
      refine ⟨g, cur, rfl, (hS g).2 (.inr (.inr rfl)), hg, by rw [hcs]; omega, ?_⟩
      rw [← ht, List.drop_take, List.take_take, Nat.min_eq_left (by omega)]
  have HB : Hid (∀ wr, Stay (fun k => S k ∨ k = Bs) W wr → wr.cell? ⟨Bs, 0, none⟩ = some (.pointer (some ⟨d, 0, none⟩)) ∧ wr.cell? ⟨d, 2, none⟩ = some (.slice a D.loose.length c)) := Lib.hid fun wr hs => by
    have k0 := (hs Bs (.inr rfl)).trans ((hW.block Bs hBl).trans hBs)
    have k1 := (hs d (.inl ((hS d).2 (.inl rfl)))).trans ((hW.block d (hlt d ((hS d).2 (.inl rfl)))).trans hd)
    exact ⟨cell_at k0 0, cell_at k1 2⟩
  have HR : Hid (∀ k, (hk : k < D.loose.length) → ∃ g cur, a = some ⟨g, 0, none⟩ ∧ (∀ wr, Stay (fun k => S k ∨ k = Bs) W wr → wr.heap[g]? = some (.cells cur 108 (0, 0))) ∧ k * 65 + 65 ≤ cur.size ∧ ((cur.toList.drop (k * 65)).take 65) = wrote D.loose[k]) := Lib.hid fun k hk => by
    obtain ⟨g, cur, h1, h2, h3, h4, h5⟩ := hrow k hk
    exact ⟨g, cur, h1, fun wr hs => (hs g (.inl h2)).trans ((hW.block g (hlt g h2)).trans h3), h4, by rw [h5]; exact flat_at ho.loose hk⟩
  have HL := Lib.hid hlen
  have HAT := Lib.hid hat
  have HY := Lib.hid hY
  obtain ⟨q0, q1⟩ := HB.out W (fun _ _ => rfl)
  clear hlt hBl hS hd hm hv ho hBs hW hrow hat hxs hY
  refine callsIn_of_wp Try.func89 rfl trivial ?_ rfl
  simp only [Try.ntmps89, List.size_toArray, List.length_cons, List.length_nil, Nat.reduceAdd, Nat.reduceSub, Array.replicate_succ, Array.replicate_zero, List.push_toArray, List.append_toArray, List.nil_append, List.cons_append]
  gi_wp2
  clear q0 q1
  gi_loopw [3] (fun i wr => ∃ k : Nat, k ≤ D.loose.length ∧ i = .int .i64 k ∧ J (xs.take (xs.length - k)) wr ∧ Stay (fun k => S k ∨ k = Bs) W wr) (fun i _ => (intOf i).toNat)
  case atStart => exact ⟨D.loose.length, Nat.le_refl _, rfl, by rw [HL.out, Nat.sub_self]; exact h0, fun _ _ => rfl⟩
  case round =>
    obtain ⟨k, hk, rfl, hJs, hst⟩ := hrel
    obtain ⟨f0, f1⟩ := HB.out wr hst
    by_cases hlt : 0 < k
    · obtain ⟨k, rfl⟩ : ∃ k', k = k' + 1 := ⟨k - 1, by omega⟩
      obtain ⟨g, cur, rfl, hg, hcs, ht⟩ := HR.out k (by omega)
      have hg' := hg wr hst
      have hi : xs.length - (k + 1) < xs.length := by have := HL.out; omega
      obtain ⟨fn, tmps, assign, body, hy, hR⟩ := HY.out _ (xs[xs.length - (k + 1)]) wr hJs (by rw [List.length_take]; omega)
      simp only [encW] at hy
      rw [HAT.out k (by omega) hi] at hy
      have HT := Lib.hid ht
      have HJ := Lib.hid hJs
      have HG := Lib.hid hg'
      have HST := Lib.hid hst
      clear ht hJs hg hg' hst
      gi_wp2_with (refine wpListIn_val rfl rfl (by intro c h; cases h) (exec_loadA (off := k * 65) HG.out Try.underlying108 rfl sizeWr hcs rfl rfl) ?_; rw [HT.out])
      have hts : xs.take (xs.length - (k + 1)) ++ [xs[xs.length - (k + 1)]] = xs.take (xs.length - k) := by
        rw [← List.take_succ_eq_append_getElem hi, show xs.length - (k + 1) + 1 = xs.length - k by have := HL.out; omega]
      refine hR.mono ?_
      rintro e W3 (⟨rfl, hJ3, hk3⟩ | ⟨rfl, hJx3⟩)
      · have hst3 : Stay (fun k => S k ∨ k = Bs) W W3 := fun j hj => (hk3 j hj).trans (HST.out j hj)
        rw [hts] at hJ3
        have HJ3 := Lib.hid hJ3
        have HST3 := Lib.hid hst3
        clear hk3 hJ3 hst3 hts hy
        gi_wp2
        go_roundw
        case rel => exact ⟨k, by omega, by go_num, HJ3.out, HST3.out⟩
        case measure => simp [intOf]
      · have HJ3 := Lib.hid hJx3
        have HTS := Lib.hid hts
        clear hJx3 hts hy
        gi_wp2
        refine bodyPost_ret (results_none rfl _ _ _) rfl ?_
        exact ⟨⟨_, rfl⟩, .inr ⟨_, by rw [HTS.out]; exact List.take_prefix _ _, HJ3.out⟩⟩
    · obtain rfl : k = 0 := by omega
      rw [Nat.sub_zero, List.take_length] at hJs
      have HJ3 := Lib.hid hJs
      clear hJs hst
      gi_wp2
      go_end0
      exact ⟨⟨_, rfl⟩, .inl ⟨_, rfl, HJ3.out⟩⟩

set_option maxRecDepth 100000 in
theorem dskBack (w : World) (d : Nat) : Calls Try.prog 83 #[.pointer (some ⟨d, 0, none⟩)] w fun e w' => e = .returned (.func (.func 89) #[] #[.pointer (some ⟨w.heap.size, 0, none⟩)]) ∧ w' = w.alloc (.cells #[.pointer (some ⟨d, 0, none⟩)] 124) := by
  go_enter Try.func83, Try.ntmps83
  go_wp2
  go_ret
  exact ⟨rfl, rfl⟩
def NoneAt (at_ : Int) (pre : List Wr) : Prop := pre.find? (fun x => x.1.1 == at_) = none
def FirstAt (at_ : Int) (pre : List Wr) (x : Wr) : Prop := pre.find? (fun x => x.1.1 == at_) = some x
def Found (at_ : Int) (k : Nat) (pre : List Wr) (W : World) : Prop := ∃ x : Wr, FirstAt at_ pre x ∧ W.heap[k]? = some (.cells (bvs x.1.2).toArray 80 (0, 0))
theorem foundOwn {B k : Nat} {at_ : Int} : OwnFrom B (Found at_ k) := fun s W W' row h hg hr => by
  obtain ⟨x, hx, hh⟩ := h
  exact ⟨x, hx, heapOwn (cs := fun _ => (bvs x.1.2).toArray) s W W' row hh hg hr⟩
theorem NoneAt.snoc {at_ : Int} {pre : List Wr} {x : Wr} (h : NoneAt at_ pre) (hx : x.1.1 ≠ at_) : NoneAt at_ (pre ++ [x]) := by
  unfold NoneAt at *
  rw [List.find?_append, h]
  simp [hx]
theorem NoneAt.first {at_ : Int} {pre : List Wr} {x : Wr} (h : NoneAt at_ pre) (hx : x.1.1 = at_) : FirstAt at_ (pre ++ [x]) x := by
  unfold NoneAt at h
  unfold FirstAt
  rw [List.find?_append, h]
  simp [hx]
theorem FirstAt.pre {at_ : Int} {pre xs : List Wr} {x : Wr} (h : FirstAt at_ pre x) (hp : pre <+: xs) : FirstAt at_ xs x := by
  obtain ⟨t, rfl⟩ := hp
  unfold FirstAt at *
  rw [List.find?_append, h]
  rfl
theorem holds_none {D : Dk} {at_ : Int} {xs : List Wr} (hxs : xs.map Subtype.val = D.loose.reverse) (h : NoneAt at_ xs) : (match D.loose.reverse.find? (fun p => p.1 == at_) with | some p => p.2 | none => (D.firm.look at_).getD (List.replicate 64 0)) = (D.firm.look at_).getD (List.replicate 64 0) := by
  rw [← hxs, List.find?_map]
  unfold NoneAt at h
  rw [show (fun p : Int × List UInt8 => p.1 == at_) ∘ Subtype.val = (fun x : Wr => x.1.1 == at_) from rfl, h]
  rfl
theorem holds_first {D : Dk} {at_ : Int} {xs : List Wr} {x : Wr} (hxs : xs.map Subtype.val = D.loose.reverse) (h : FirstAt at_ xs x) : (match D.loose.reverse.find? (fun p => p.1 == at_) with | some p => p.2 | none => (D.firm.look at_).getD (List.replicate 64 0)) = x.1.2 := by
  rw [← hxs, List.find?_map]
  unfold FirstAt at h
  rw [show (fun p : Int × List UInt8 => p.1 == at_) ∘ Subtype.val = (fun x : Wr => x.1.1 == at_) from rfl, h]
  rfl
def Dk.holds (D : Dk) (at_ : Int) : List UInt8 := match D.loose.reverse.find? (fun p => p.1 == at_) with | some p => p.2 | none => (D.firm.look at_).getD (List.replicate 64 0)
theorem exec_lookup {P : Program} {w : World} {o : Oper} {ev : Operand → Value} {t : TypeId} {m x : Operand} {vm vx v : Value} (ho : o.op = .lookup t m x false) (hm : ev m = vm) (hx : ev x = vx) (h : (Instr.lookup t vm vx false).run P w = .ok v w) : (execOp ev o).run P w = .ok (.value v) w := by
  unfold execOp
  simp only [ho, hm, hx, Sem.run_bind, h, Result.andThen_ok, Sem.run_pure]
set_option maxRecDepth 100000 in
set_option maxHeartbeats 4000000 in
theorem dskHolds (w : World) (d : Nat) (D : Dk) (S : Nat → Prop) (h : IsDisk w d D S) (at_ : Int) (hl : D.loose.length ≤ 1000000000) :
    Calls Try.prog 72 #[.pointer (some ⟨d, 0, none⟩), .int .i64 at_] w fun e w' => e = .returned (.agg (bvs (D.holds at_)).toArray) ∧ Upd NoS w w' := by
  have HI := Lib.hid h
  obtain ⟨m, v, hS, hd, hm, hv, ho⟩ := h
  have HD := Lib.hid hd
  have HM := Lib.hid hm
  have HO := Lib.hid ho
  clear hS hd hm hv ho
  refine calls_of_wp_marks (fn := Try.f72) Try.func72 rfl ?_
  simp only [Try.ntmps72, List.size_toArray, List.length_cons, List.length_nil, Nat.reduceAdd, Nat.reduceSub, Array.replicate_succ, Array.replicate_zero, List.push_toArray, List.append_toArray, List.nil_append, List.cons_append]
  go_wp2
  refine wp_name ?_
  intro W1 hW1
  obtain ⟨n, hn⟩ : ∃ n, n = w.heap.size := ⟨_, rfl⟩
  have hu1 : Upd NoS w W1 := by rw [hW1]; exact ((Upd.refl NoS w).alloc _).alloc _
  have hz1 : W1.heap.size = n + 2 := by rw [hW1, hn]; simp
  have h3 : W1.heap[n]? = some (.cells #[.int .i64 at_] 3 (0, 0)) := by rw [hW1, hn]; exact heap_old (heap_new _ _)
  have h4 : W1.heap[n + 1]? = some (.cells (bvs (List.replicate 64 0)).toArray 80 (0, 0)) := by rw [hW1, hn]; exact heap_new' (by simp)
  have hI1 := HI.out.updNo hu1
  have MK : Hid (∀ w', Upd NoS W1 w' → w'.cell? ⟨d, 1, none⟩ = some (.map (some m)) ∧ w'.cell? ⟨n, 0, none⟩ = some (.int .i64 at_) ∧ IsMap w' m D.firm) := Lib.hid fun w' hu =>
    ⟨cell_at ((hu1.tr hu).heap HD.out id) 1, cell_at (hu.heap h3 id) 0, HM.out.upd (hu1.tr hu) id⟩
  rw [← hn]
  have H3 := Lib.hid h3
  have H4 := Lib.hid h4
  have HU1 := Lib.hid hu1
  have HZ1 := Lib.hid hz1
  have HI1 := Lib.hid hI1
  have HN := Lib.hid hn
  clear hW1 hn hu1 hz1 h3 h4 hI1
  have hz64 : ∀ q : List UInt8, ((D.firm.look at_).getD (List.replicate 64 0) = q) → q.length = 64 := by
    rintro q rfl
    cases hlk : D.firm.look at_ with
    | none => simp
    | some v =>
      unfold Ents.look at hlk
      obtain ⟨p, hp, rfl⟩ := Option.map_eq_some_iff.1 hlk
      exact HO.out.firm p (List.mem_of_find?_eq_some hp)
  obtain ⟨fb, hfb⟩ : ∃ fb, fb = (D.firm.look at_).getD (List.replicate 64 0) := ⟨_, rfl⟩
  have h64 := hz64 fb hfb.symm
  have HFB := Lib.hid hfb
  clear hz64 hfb
  refine wp_scope_straight ?_
  refine wp_seq_k (fun K1 hK1 => ?_)
  refine wp_region_canon (fun w' => Upd NoS W1 w') 7 1 [6] [0, 1, 2, 3, 4, 5, 6] rfl (by kernel_rfl) (by decide) (by kernel_rfl) (by kernel_rfl) (by kernel_rfl) (by kernel_rfl) (by kernel_rfl) ((Upd.refl _ _).drew) ?_
  simp only [List.take_succ_cons, List.take_zero, List.drop_succ_cons, List.drop_zero, pick, List.getElem?_cons_succ, List.getElem?_cons_zero, Nat.reduceBEq, List.contains_cons, List.contains_nil, Bool.or_self, Bool.or_false, Bool.or_true, Bool.true_or, Bool.false_or]
  iterate 5 (refine wpD_quiet ?_ (fun w' hS => ?_) ?_; rotate_left; (· obtain ⟨f0, f1, f2⟩ := MK.out w' hS; go_simp; (try with_reducible rfl)); (try simp only [Act.put, List.setIfInBounds_toArray, List.set_cons_succ, List.set_cons_zero]))
  refine wpD_quiet (blockV fb) (fun w' hS => exec_lookup rfl rfl rfl (by rw [HFB.out]; exact run_lookup_block Try.underlying95 Try.underlying3 (zeroBlock w') (MK.out w' hS).2.2 at_)) ?_
  simp only [Act.put, List.setIfInBounds_toArray, List.set_cons_succ, List.set_cons_zero, blockV]
  refine wpD_loud (fun K hK => ?_)
  go_wp2_with fail
  refine hK _ _ ((Upd.refl _ _).drew.alloc _) ?_
  refine wpD_nil ?_
  go_wp2_with (refine wpList_store0 (heap_new _ _) sizeBlock (by simp [h64]) (by rfl) (bvs_one fb) rfl (x := .tmp 5) (y := .tmp 12) rfl rfl rfl ?_; intro w2 hg2 hu2 hs2)
  refine NoPanic.normal ?_
  have e5 : W1.heap.size = n + 2 := HZ1.out
  have hg2' : w2.heap[n + 2]? = some (.cells (bvs fb).toArray 80 (0, 0)) := by rw [← e5]; exact hg2
  have hu2' : Upd NoS W1 w2 := ((Upd.refl NoS W1).drew.alloc _).trans hu2 (fun k hk e => absurd hk (by rw [show k = W1.heap.size from e]; exact Nat.lt_irrefl _))
  have hsz2 : w2.heap.size = n + 3 := by rw [hs2]; simp [HZ1.out]
  rw [e5]
  have HG2 := Lib.hid hg2'
  have HU2 := Lib.hid hu2'
  have HS2 := Lib.hid hsz2
  clear hg2 hg2' hu2 hs2 hu2' hsz2 e5
  refine hK1 _ _ ?_
  clear hK1
  refine wp_seq_k (fun K2 hK2 => wp_label (hK2 _ _ ?_))
  clear hK2
  go_wp2_with (go_at_call 83; refine (dskBack _ d).mono ?_; rintro e w3 ⟨rfl, rfl⟩)
  rw [HS2.out]
  obtain ⟨xs, hxs⟩ : ∃ xs : List Wr, xs.map Subtype.val = D.loose.reverse := exWr _ (fun p hp => HO.out.loose p (List.mem_reverse.1 hp))
  refine wp_name ?_
  intro Wb hWb
  have huB : Upd NoS w2 Wb := by rw [hWb]; exact (Upd.refl NoS w2).alloc _
  have hBs : Wb.heap[n + 3]? = some (.cells #[.pointer (some ⟨d, 0, none⟩)] 124 (0, 0)) := by rw [hWb, ← HS2.out]; exact heap_new _ _
  have hsB : Wb.heap.size = n + 4 := by rw [hWb]; simp [HS2.out]
  have huw : Upd NoS w Wb := (HU1.out.tr HU2.out).tr huB
  have hIB := HI.out.updNo huw
  have h5 := huB.heap HG2.out id
  have h3 := (HU2.out.tr huB).heap H3.out id
  have h4 := (HU2.out.tr huB).heap H4.out id
  have hSl := HI.out.lt
  clear hWb huB
  refine wp_rangeFunc rfl (by kernel_rfl) (backTells Wb d D S hIB (n + 3) hBs hl xs hxs) (fun k hk => hk.elim (hIB.lt k) (fun e => by rw [e, hsB]; omega)) (fun x => rfl)
    (fun pre W => (Upd (OneS (n + 2)) Wb W ∧ W.heap[n + 2]? = some (.cells (bvs fb).toArray 80 (0, 0))) ∧ NoneAt at_ pre)
    (fun c pre W => (Upd (OneS (n + 2)) Wb W ∧ Found at_ (n + 2) pre W) ∧ c = .exit 0)
    (fun s W W' row h hg hr => ⟨⟨updOwn s W W' row h.1.1 hg hr, heapOwn (cs := fun _ => (bvs fb).toArray) s W W' row h.1.2 hg hr⟩, h.2⟩)
    (fun c s W W' row h hg hr => ⟨⟨updOwn s W W' row h.1.1 hg hr, foundOwn s W W' row h.1.2 hg hr⟩, h.2⟩)
    ⟨⟨Upd.refl _ _, h5⟩, rfl⟩
    (fun x a' W => ∃ g, Wb.heap.size ≤ g ∧ W.heap[g]? = some (.cells (wrote x.1).toArray 108 (0, 0)) ∧ a' = { tmps := #[.pointer (some ⟨d, 0, none⟩), .int .i64 at_, undef, .pointer (some ⟨n, 0, none⟩), .pointer (some ⟨n + 1, 0, none⟩), .pointer (some ⟨n + 2, 0, none⟩), .pointer (some ⟨g, 0, none⟩), .pointer (some ⟨d, 0, none⟩), .pointer (some ⟨d, 0, none⟩), .pointer (some ⟨d, 1, none⟩), .map (some m), .int .i64 at_, .agg (bvs fb).toArray, .pointer (some ⟨d, 0, none⟩), .func (.func 89) #[] #[.pointer (some ⟨n + 3, 0, none⟩)], .agg (wrote x.1).toArray, undef, undef, undef, undef, undef, undef, undef], defers := [] })
    (fun x a' s W W' row h hg hr => by obtain ⟨g, h1, h2, h3⟩ := h; exact ⟨g, h1, heapOwn (cs := fun _ => (wrote x.1).toArray) s W W' row h2 hg hr, h3⟩) ?assign ?body ?done ?stop
  case assign =>
    rintro l pre x W K' ⟨⟨hu, hh⟩, hf⟩ hK'
    simp only [encW]
    gi_wp2_with (refine wpListIn_store0 (heap_new _ _) sizeWr (size_wrote x.2) (by rfl) (one_wrote _) rfl rfl (x := .tmp 6) (y := .tmp 15) rfl rfl rfl ?_; intro W3 hg3 hu3 hs3)
    have hu03 : Upd NoS W W3 := ((Upd.refl NoS W).alloc _).trans hu3 (fun k hk e => absurd hk (by rw [show k = W.heap.size from e]; exact Nat.lt_irrefl _))
    have hBW := hu.size
    exact hK' _ _ (keepsOf hu03 (fun _ _ h => h.elim)) (stayOf hu03 (fun k hk => ⟨Nat.lt_of_lt_of_le (hk.elim (hIB.lt k) (fun e => by rw [e, hsB]; omega)) hBW, id⟩)) ⟨⟨hu.trNo hu03, hu03.heap hh id⟩, hf⟩ ⟨W.heap.size, hBW, hg3, rfl⟩
  case body =>
    rintro l pre x a' W hl hr ⟨⟨hu, hh⟩, hf⟩ ⟨g, hgB, hg, rfl⟩ hlen
    have q0 := cell_at hg 0
    simp only [wrote, List.getElem?_toArray, List.getElem?_cons_zero] at q0
    have q1 := cell_at (hu.heap h3 (by simp only [OneS]; omega)) 0
    simp only [List.getElem?_toArray, List.getElem?_cons_zero] at q1
    have HH := Lib.hid hh
    have HG := Lib.hid hg
    have HU := Lib.hid hu
    have HF := Lib.hid hf
    clear hh hg hu hf
    by_cases hx : x.1.1 = at_
    · have hxe : (x.1.1 == at_) = true := by simpa using hx
      have HX := Lib.hid hx
      clear hx
      have e64 : (((wrote x.1).toArray.toList.drop 1).take 64).toArray = (bvs x.1.2).toArray := by
        simp only [wrote, List.drop_succ_cons, List.drop_zero]
        rw [List.take_of_length_le (by simp [x.2])]
      have E64 := Lib.hid e64
      clear e64
      gi_wp2_with (first
        | (refine wpListIn_val rfl rfl (by intro c h; cases h) (exec_loadA (off := 1) HG.out Try.underlying80 rfl sizeBlock (by rw [size_wrote x.2]; decide) rfl rfl) ?_; rw [E64.out])
        | (refine wpListIn_store0 HH.out sizeBlock (by simp [x.2]) (by simp [h64]) (bvs_one x.1.2) rfl rfl (x := .tmp 5) (y := .tmp 21) rfl rfl rfl ?_; intro W3 hg3 hu3 hs3))
      exact ⟨keepsOf hu3 (fun k o e _ hB => absurd hB (by rw [show k = n + 2 from e]; omega)), ⟨HU.out.tr hu3, x, HF.out.first HX.out, hg3⟩, rfl⟩
    · have hxe : (x.1.1 == at_) = false := by simpa using hx
      have HX := Lib.hid hx
      gi_wp2
      exact ⟨KeepsFrom.refl _ _, fun _ _ => rfl, ⟨HU.out, HH.out⟩, HF.out.snoc HX.out⟩
  case done =>
    rintro D' W hD ⟨⟨hu, hh⟩, hf⟩ hDk
    have HH := Lib.hid hh
    have HR4 := Lib.hid (hu.heap h4 (by simp only [OneS]; omega))
    have HU := Lib.hid hu
    have HF := Lib.hid hf
    have HDk := Lib.hid hDk
    clear hh hu hf hDk
    go_wp2_with (first
      | (refine wpList_load0 HH.out Try.underlying80 rfl sizeBlock (by simp [h64]) rfl (x := .tmp 5) rfl rfl ?_)
      | (refine wpList_store0 HR4.out sizeBlock (by simp [h64]) (by rfl) (bvs_one fb) rfl (x := .tmp 4) (y := .tmp 22) rfl rfl rfl ?_; intro W3 hg3 hu3 hs3))
    have hDk3 := hu3.heap HDk.out (by simp only [OneS]; omega)
    have hg4 := (grownBy_putObj' W3 D' (.deferred none)).block (n + 1) (lt_of_heap hg3) (fun e => by cases e; omega)
    refine (?_ : bodyPostM Fence.wide 9 Try.prog Try.f72 _ .ret _ _)
    refine ⟨by simp, .inl ⟨_, _, rfl, run_takeDeferred hDk3, ?_⟩⟩
    refine ⟨_, results_cell_row rfl _ _ (n + 1) _ _ _ _ rfl (hg4.trans hg3) Try.underlying80 rfl (by simpa [h64] using sizeBlock), ?_, ?_⟩
    · unfold Dk.holds
      rw [holds_none hxs HF.out, ← HFB.out]
      rfl
    · have hW3 : Upd NoS w W3 := (huw.trans HU.out (fun k hk e => absurd hk (by have := HN.out; rw [show k = n + 2 from e]; omega))).trans hu3 (fun k hk e => absurd hk (by have := HN.out; rw [show k = n + 1 from e]; omega))
      exact hW3.grown (grownBy_putObj' W3 D' (.deferred none)) (fun k hk hlt => absurd hlt (by cases hk; have := HN.out; have := hsB; omega))
  case stop =>
    rintro D' c pre W hD hpre ⟨⟨hu, x, hx, hh⟩, rfl⟩ hDk
    have HH := Lib.hid hh
    have HR4 := Lib.hid (hu.heap h4 (by simp only [OneS]; omega))
    have HU := Lib.hid hu
    have HX := Lib.hid hx
    have HDk := Lib.hid hDk
    clear hh hu hx hDk
    go_wp2_with (first
      | (refine wpList_load0 HH.out Try.underlying80 rfl sizeBlock (by simp [x.2]) rfl (x := .tmp 5) rfl rfl ?_)
      | (refine wpList_store0 HR4.out sizeBlock (by simp [x.2]) (by rfl) (bvs_one x.1.2) rfl (x := .tmp 4) (y := .tmp 22) rfl rfl rfl ?_; intro W3 hg3 hu3 hs3))
    have hDk3 := hu3.heap HDk.out (by simp only [OneS]; omega)
    have hg4 := (grownBy_putObj' W3 D' (.deferred none)).block (n + 1) (lt_of_heap hg3) (fun e => by cases e; omega)
    refine (?_ : bodyPostM Fence.wide 9 Try.prog Try.f72 _ .ret _ _)
    refine ⟨by simp, .inl ⟨_, _, rfl, run_takeDeferred hDk3, ?_⟩⟩
    refine ⟨_, results_cell_row rfl _ _ (n + 1) _ _ _ _ rfl (hg4.trans hg3) Try.underlying80 rfl (by simpa [x.2] using sizeBlock), ?_, ?_⟩
    · unfold Dk.holds
      rw [holds_first hxs (HX.out.pre hpre)]
      rfl
    · have hW3 : Upd NoS w W3 := (huw.trans HU.out (fun k hk e => absurd hk (by have := HN.out; rw [show k = n + 2 from e]; omega))).trans hu3 (fun k hk e => absurd hk (by have := HN.out; rw [show k = n + 1 from e]; omega))
      exact hW3.grown (grownBy_putObj' W3 D' (.deferred none)) (fun k hk hlt => absurd hlt (by cases hk; have := HN.out; have := hsB; omega))
end Go.Proofs.Ytomgdfoahfhijaa
