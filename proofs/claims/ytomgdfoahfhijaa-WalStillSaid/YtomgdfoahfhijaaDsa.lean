/- disk: asked. -/
import Derived.Test.YtomgdfoahfhijaaDsk
set_option linter.unusedVariables false
set_option linter.unusedSimpArgs false
namespace Go.Proofs.Ytomgdfoahfhijaa
open Go.RowKit

theorem wrap_bounds (n : Int) : -9223372036854775808 ≤ IntKind.i64.wrap n ∧ IntKind.i64.wrap n ≤ 9223372036854775807 := by
  rw [IntKind.wrap_i64]; omega
/-- The disk's struct names the same map. -/
def SameMap (d : Nat) (w w' : World) : Prop := w'.cell? ⟨d, 1, none⟩ = w.cell? ⟨d, 1, none⟩
theorem sameMap_of {d : Nat} {w w' : World} {D D' : Dk} {m : Nat} {v v' : Value} {t t' : TypeId} (h : w.heap[d]? = some (.cells (D.cells m v) t (0, 0))) (h' : w'.heap[d]? = some (.cells (D'.cells m v') t' (0, 0))) : SameMap d w w' := by
  unfold SameMap
  rw [cell_at h, cell_at h']
  rfl
def AskPost (w w' : World) (d : Nat) (D : Dk) (S : Nat → Prop) (at_ : Int) (lays : Bool) (X : World → Dk → (Nat → Prop) → World → Prop) : Prop :=
  ((D.ask at_ lays).1 ≠ 0 → IsDisk w' d (D.ask at_ lays).2 S ∧ Upd (OneS d) w w' ∧ w'.heap.size = w.heap.size ∧ SameMap d w w') ∧
  ((D.ask at_ lays).1 = 0 → ∃ D2 S2 w1 w2, Upd (OneS d) w w1 ∧ w1.heap.size = w.heap.size ∧ X w1 D2 S2 w2 ∧ IsDisk w' d D2.op S2 ∧ Upd (OneS d) w2 w' ∧ w'.heap.size = w2.heap.size ∧ SameMap d w w1 ∧ SameMap d w2 w')
set_option maxRecDepth 100000 in
set_option maxHeartbeats 2000000 in
theorem dskAsked (w : World) (d : Nat) (D : Dk) (S : Nat → Prop) (h : IsDisk w d D S) (at_ : Int) (lays : Bool) (fn : Nat) (cap : Array Value) (X : World → Dk → (Nat → Prop) → World → Prop) (hfn : ∀ w, (callFunc fn cap).run Try.prog w = .ok (.enter fn cap) w)
    (hdo : (D.ask at_ lays).1 = 0 → ∀ w1, IsDisk w1 d (D.ask at_ lays).2 S → Upd (OneS d) w w1 → w1.heap.size = w.heap.size → Calls Try.prog fn cap w1 fun e w2 => e = .returned (.tuple #[]) ∧ ∃ D2 S2, IsDisk w2 d D2 S2 ∧ X w1 D2 S2 w2) :
    Calls Try.prog 70 #[.pointer (some ⟨d, 0, none⟩), .int .i64 at_, .bool lays, .func (.func fn) #[] cap] w fun e w' => e = .returned (.int .i64 (D.ask at_ lays).1) ∧ AskPost w w' d D S at_ lays X := by
  have hok := Dk.ask_ok h.ok at_ lays
  obtain ⟨m, v, hS, hd, hm, hv, ho⟩ := h
  have c0 := cell_at hd 0
  have c3 := cell_at hd 3
  simp only [Dk.cells, List.getElem?_toArray, List.getElem?_cons_zero, List.getElem?_cons_succ] at c0 c3
  have HP := Lib.hid (fun (w' : World) (D' : Dk) (hu : Upd (OneS d) w w') (hd' : w'.heap[d]? = some (.cells (D'.cells m v) 102 (0, 0))) (h1 : D'.firm = D.firm) (h2 : D'.loose = D.loose) (ho : D'.Ok) => IsDisk.put hS hd hm hv hu hd' h1 h2 ho)
  have HD := Lib.hid hd
  have HI := Lib.hid (show IsDisk w d D S from ⟨m, v, hS, hd, hm, hv, ho⟩)
  have HF := Lib.hid ho.fails
  have HA := Lib.hid ho.arms
  have hz := ho.size1
  have HOK := Lib.hid hok
  have HDO := Lib.hid hdo
  have HFN := Lib.hid hfn
  clear hS hd hm hv ho hok hdo hfn
  by_cases h1 : D.out = true
  · rw [h1] at c3
    have e : D.ask at_ lays = (9, D) := by simp [Dk.ask, h1]
    have E := Lib.hid e
    clear h1 e HOK HDO
    go_enter Try.func70, Try.ntmps70
    go_wp2
    go_ret
    unfold AskPost
    rw [E.out]
    exact ⟨rfl, fun _ => ⟨HI.out, Upd.refl _ _, rfl, rfl⟩, fun h => absurd h (by simp)⟩
  · have h1' : D.out = false := by simpa using h1
    rw [h1'] at c3
    by_cases h2 : at_ < 0 ∨ D.size ≤ at_
    · have e : D.ask at_ lays = (2, D) := by simp [Dk.ask, h1', h2]
      have E := Lib.hid e
      clear h1 h1' e HOK HDO
      go_enter Try.func70, Try.ntmps70
      go_wp2
      all_goals first | (exfalso; omega) | skip
      all_goals
        go_ret
        unfold AskPost
        rw [E.out]
        exact ⟨rfl, fun _ => ⟨HI.out, Upd.refl _ _, rfl, rfl⟩, fun h => absurd h (by simp)⟩
    · have h20 : 0 ≤ at_ := by omega
      have h21 : at_ < D.size := by omega
      go_enter Try.func70, Try.ntmps70
      go_wp2_with (go_at_call 82; refine halted ?_)
      unfold Halted
      refine (dskMet w d 6 D.fails (D.cells m v) _ HD.out rfl rfl HF.out).mono ?_
      rintro e w1 ⟨rfl, hg1, hu1, hs1⟩
      have hg1' : w1.heap[d]? = some (.cells (({ D with fails := metC D.fails } : Dk).cells m v) 102 (0, 0)) := by simpa [Dk.cells] using hg1
      have HG1 := Lib.hid hg1'
      have HU1 := Lib.hid hu1
      have HS1 := Lib.hid hs1
      clear hg1 hg1' hu1 hs1 h1
      obtain ⟨mf, hmf⟩ : ∃ mf, mf = metB D.fails := ⟨_, rfl⟩
      rw [← hmf]
      cases mf with
      | true =>
        have e : D.ask at_ lays = (8, { D with fails := metC D.fails }) := by simp [Dk.ask, h1', h2, ← hmf]
        rw [e] at HOK
        have E := Lib.hid e
        clear e HDO hmf h1'
        go_wp2
        go_ret
        unfold AskPost
        rw [E.out]
        exact ⟨rfl, fun _ => ⟨HP.out _ _ HU1.out HG1.out rfl rfl HOK.out, HU1.out, HS1.out, sameMap_of HD.out HG1.out⟩, fun h => absurd h (by simp)⟩
      | false =>
        cases lays with
        | false =>
          have e : D.ask at_ false = (0, { D with fails := metC D.fails }) := by simp [Dk.ask, h1', h2, ← hmf]
          rw [e] at HOK
          have hdo := HDO.out
          rw [e] at hdo
          have HDO2 := Lib.hid (hdo rfl w1 (HP.out _ _ HU1.out HG1.out rfl rfl HOK.out) HU1.out HS1.out)
          have E := Lib.hid e
          clear e HDO hmf h1' hdo
          go_wp2
          rw [HFN.out, Oper.upon_enter]
          refine HDO2.out.mono ?_
          rintro e w2 ⟨rfl, D2, S2, hI2, hX⟩
          obtain ⟨m2, v2, hS2, hd2, hm2, hv2, ho2⟩ := hI2
          have c8 := cell_at hd2 8
          have f8 := free_at hd2 8
          simp only [Dk.cells, List.getElem?_toArray, List.getElem?_cons_zero, List.getElem?_cons_succ] at c8
          have HM2 := Lib.hid (sameMap_of (w := w2) (w' := w2.setCell ⟨d, 8, none⟩ (.int .i64 D2.op.ops)) (D' := D2.op) hd2 (by rw [heap_set hd2]; rfl))
          have HP2 := Lib.hid (IsDisk.put (D' := D2.op) hS2 hd2 hm2 hv2 ((Upd.refl (OneS d) w2).setCell ⟨d, 8, none⟩ (.int .i64 D2.op.ops) (fun _ => rfl)) (by rw [heap_set hd2]; rfl) rfl rfl ⟨ho2.size1, ho2.size2, ho2.firm, ho2.loose, ho2.arms, ho2.fails, wrap_bounds _⟩)
          have HX := Lib.hid hX
          have ew : IntKind.i64.wrap (D2.ops + 1) = D2.op.ops := rfl
          clear hS2 hd2 hm2 hv2 ho2 hX
          go_wp2
          go_ret
          unfold AskPost
          rw [E.out]
          exact ⟨rfl, fun h => absurd rfl h, fun _ => ⟨D2, S2, w1, w2, HU1.out, HS1.out, HX.out, HP2.out, (Upd.refl (OneS d) w2).setCell ⟨d, 8, none⟩ _ (fun _ => rfl), by simp [World.setCell], sameMap_of HD.out HG1.out, HM2.out⟩⟩
        | true =>
          have HMF := Lib.hid hmf
          clear hmf
          go_wp2_with (go_at_call 82; refine halted ?_)
          unfold Halted
          refine (dskMet w1 d 4 D.arms _ _ HG1.out rfl rfl HA.out).mono ?_
          rintro e w1b ⟨rfl, hg1b, hu1b, hs1b⟩
          have hg1b' : w1b.heap[d]? = some (.cells (({ D with fails := metC D.fails, arms := metC D.arms } : Dk).cells m v) 102 (0, 0)) := by simpa [Dk.cells] using hg1b
          have HG2 := Lib.hid hg1b'
          have HU2 := Lib.hid (HU1.out.tr hu1b)
          have HS2 := Lib.hid (hs1b.trans HS1.out)
          clear hg1b hg1b' hu1b hs1b
          obtain ⟨ma, hma⟩ : ∃ ma, ma = metB D.arms := ⟨_, rfl⟩
          rw [← hma]
          cases ma with
          | true =>
            have e : D.ask at_ true = (9, { D with fails := metC D.fails, arms := metC D.arms, out := true }) := by simp [Dk.ask, h1', h2, ← HMF.out, ← hma]
            rw [e] at HOK
            have E := Lib.hid e
            have hg3 := HG2.out
            have c3 := cell_at hg3 3
            have f3 := free_at hg3 3
            simp only [Dk.cells, List.getElem?_toArray, List.getElem?_cons_zero, List.getElem?_cons_succ] at c3
            have HM3 : Hid ((w1b.setCell ⟨d, 3, none⟩ (.bool true)).heap[d]? = some (.cells (({ D with fails := metC D.fails, arms := metC D.arms, out := true } : Dk).cells m v) 102 (0, 0))) := Lib.hid (by rw [heap_set hg3]; rfl)
            have HP3 := Lib.hid (HP.out (w1b.setCell ⟨d, 3, none⟩ (.bool true)) { D with fails := metC D.fails, arms := metC D.arms, out := true } (HU2.out.setCell ⟨d, 3, none⟩ _ (fun _ => rfl)) (by rw [heap_set hg3]; rfl) rfl rfl HOK.out)
            clear e HDO hma h1' hg3
            go_wp2
            go_ret
            unfold AskPost
            rw [E.out]
            exact ⟨rfl, fun _ => ⟨HP3.out, HU2.out.setCell ⟨d, 3, none⟩ _ (fun _ => rfl), by simpa [World.setCell] using HS2.out, sameMap_of HD.out HM3.out⟩, fun h => absurd h (by simp)⟩
          | false =>
            have e : D.ask at_ true = (0, { D with fails := metC D.fails, arms := metC D.arms }) := by simp [Dk.ask, h1', h2, ← HMF.out, ← hma]
            rw [e] at HOK
            have hdo := HDO.out
            rw [e] at hdo
            have HDO2 := Lib.hid (hdo rfl w1b (HP.out _ _ HU2.out HG2.out rfl rfl HOK.out) HU2.out HS2.out)
            have E := Lib.hid e
            clear e HDO hma h1' hdo
            go_wp2
            rw [HFN.out, Oper.upon_enter]
            refine HDO2.out.mono ?_
            rintro e w2 ⟨rfl, D2, S2, hI2, hX⟩
            obtain ⟨m2, v2, hS2, hd2, hm2, hv2, ho2⟩ := hI2
            have c8 := cell_at hd2 8
            have f8 := free_at hd2 8
            simp only [Dk.cells, List.getElem?_toArray, List.getElem?_cons_zero, List.getElem?_cons_succ] at c8
            have HM2 := Lib.hid (sameMap_of (w := w2) (w' := w2.setCell ⟨d, 8, none⟩ (.int .i64 D2.op.ops)) (D' := D2.op) hd2 (by rw [heap_set hd2]; rfl))
            have HP2 := Lib.hid (IsDisk.put (D' := D2.op) hS2 hd2 hm2 hv2 ((Upd.refl (OneS d) w2).setCell ⟨d, 8, none⟩ (.int .i64 D2.op.ops) (fun _ => rfl)) (by rw [heap_set hd2]; rfl) rfl rfl ⟨ho2.size1, ho2.size2, ho2.firm, ho2.loose, ho2.arms, ho2.fails, wrap_bounds _⟩)
            have HX := Lib.hid hX
            have ew : IntKind.i64.wrap (D2.ops + 1) = D2.op.ops := rfl
            clear hS2 hd2 hm2 hv2 ho2 hX
            go_wp2
            go_ret
            unfold AskPost
            rw [E.out]
            exact ⟨rfl, fun h => absurd rfl h, fun _ => ⟨D2, S2, w1b, w2, HU2.out, HS2.out, HX.out, HP2.out, (Upd.refl (OneS d) w2).setCell ⟨d, 8, none⟩ _ (fun _ => rfl), by simp [World.setCell], sameMap_of HD.out HG2.out, HM2.out⟩⟩
end Go.Proofs.Ytomgdfoahfhijaa
