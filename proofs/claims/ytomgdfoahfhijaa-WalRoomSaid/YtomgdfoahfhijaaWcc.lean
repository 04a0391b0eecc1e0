/- The run of wakes, in plain. -/
import Derived.Test.YtomgdfoahfhijaaWcb
set_option linter.unusedVariables false
set_option linter.unusedSimpArgs false
namespace Go.Proofs.Ytomgdfoahfhijaa

def z49 : List UInt8 := List.replicate 49 0
def wokenL : Wl := ⟨4, 0, [[], z49, [7]], 4, false⟩
theorem saidGo_take {turn : Int} {f : List (List UInt8)} {n : Nat} {said : List (List UInt8)} {fin : Nat} {l : List UInt8} (h : standsOf turn f fin said.length = some l) : saidGo turn f (n + 1) said fin = saidGo turn f n (said ++ [l]) (fin + (sectorsOf l.length).toNat) := by
  conv => lhs; unfold saidGo
  rw [h]
set_option maxRecDepth 10000 in
theorem opens_wakes {D : Dk} (hc : D.Calm) (hs : D.size = 10) (hl : D.loose = []) (h0 : D.holds 0 = titleOf 0 4) (h1 : D.holds 1 = zero64)
    (h2 : (leavesOf 0 ((0 : Nat) : Int) (([] : List UInt8).length : Int) []).map Subtype.val = [D.holds 2]) (h3 : (leavesOf 0 ((1 : Nat) : Int) (z49.length : Int) z49).map Subtype.val = [D.holds 3, D.holds 4]) (h5 : (leavesOf 0 ((2 : Nat) : Int) (([7] : List UInt8).length : Int) [7]).map Subtype.val = [D.holds 5]) :
    ∃ D', D.opens = (0, D', some wokenL) ∧ Same D D' ∧ D'.loose = [] := by
  have r0 := hc.read (a := 0) (by decide) (by omega)
  have t0 : titleAt D.size 0 (titleOf 0 4) none = some (4, 0) := by
    unfold titleAt
    rw [titleN_title (by decide) (by decide), titleT_title (by decide) (by decide), hs]
    simp [mayB, newer]
  have c0 : D.count1 0 none = (0, some (4, 0), D.op) := by
    unfold Dk.count1
    rw [r0, if_pos rfl]
    simp only
    rw [h0, show D.op.size = D.size from rfl, t0]
  have hc1 : D.op.Calm := hc
  have r1 := hc1.read (a := 1) (by decide) (by show (1 : Int) < D.size; omega)
  have t1 : titleAt D.size 1 zero64 (some (4, 0)) = some (4, 0) := by
    unfold titleAt
    have : titleN zero64 = 0 := rfl
    rw [this]
    simp [mayB]
  have c1 : D.op.count1 1 (some (4, 0)) = (0, some (4, 0), D.op.op) := by
    unfold Dk.count1
    rw [r1, if_pos rfl]
    simp only [holds_op]
    rw [h1, show D.op.op.size = D.size from rfl, t1]
  have hcts : D.counts = (0, some (4, 0), D.op.op) := by
    unfold Dk.counts
    rw [c0]
    simp only
    rw [c1, if_pos trivial]
    simp only
    rw [if_pos trivial]
  have hc2 : D.op.op.Calm := hc
  obtain ⟨D3, g1, g2, g3, g4⟩ := fieldOf_calm 2 4 0 D.op.op [] hc2 (by decide) (by show (2 : Int) + ((0 : Nat) : Int) + ((4 : Nat) : Int) ≤ D.size; rw [hs]; decide)
  have g1' : Dk.fieldOf 2 4 0 D.op.op [] = (0, [D.holds 2, D.holds 3, D.holds 4, D.holds 5], D3) := g1
  have e1 : standsOf 0 [D.holds 2, D.holds 3, D.holds 4, D.holds 5] 0 0 = some [] := stands_leaves (by decide) (Nat.le_of_ble_eq_true rfl) (by rw [h2]; rfl)
  have e2 : standsOf 0 [D.holds 2, D.holds 3, D.holds 4, D.holds 5] 1 1 = some z49 := stands_leaves (by decide) (Nat.le_of_ble_eq_true rfl) (by rw [h3]; rfl)
  have e3 : standsOf 0 [D.holds 2, D.holds 3, D.holds 4, D.holds 5] 3 2 = some [7] := stands_leaves (by decide) (Nat.le_of_ble_eq_true rfl) (by rw [h5]; rfl)
  have e4 : standsOf 0 [D.holds 2, D.holds 3, D.holds 4, D.holds 5] 4 3 = none := stands_end (f := [D.holds 2, D.holds 3, D.holds 4, D.holds 5])
  have hsg : saidGo 0 [D.holds 2, D.holds 3, D.holds 4, D.holds 5] 5 [] 0 = ([[], z49, [7]], 4) := by
    rw [saidGo_take (n := 4) (said := []) (fin := 0) e1]
    show saidGo 0 [D.holds 2, D.holds 3, D.holds 4, D.holds 5] 4 [[]] 1 = _
    rw [saidGo_take (n := 3) (said := [[]]) (fin := 1) e2]
    show saidGo 0 [D.holds 2, D.holds 3, D.holds 4, D.holds 5] 3 [[], z49] 3 = _
    rw [saidGo_take (n := 2) (said := [[], z49]) (fin := 3) e3]
    show saidGo 0 [D.holds 2, D.holds 3, D.holds 4, D.holds 5] 2 [[], z49, [7]] 4 = _
    exact saidGo_none (said := [[], z49, [7]]) e4
  have hfl : foundL 4 0 [D.holds 2, D.holds 3, D.holds 4, D.holds 5] = wokenL := by
    unfold foundL
    rw [show [D.holds 2, D.holds 3, D.holds 4, D.holds 5].length + 1 = 5 from rfl, hsg]
    rfl
  have hl3 : D3.loose = [] := g3.trans hl
  refine ⟨D3, ?_, ⟨g2.calm, g2.size⟩, hl3⟩
  unfold Dk.opens
  rw [hcts]
  simp only
  unfold Dk.openR
  simp only
  rw [show fromOf 4 0 = 2 from rfl, show (4 : Int).toNat = 4 from rfl, g1', if_pos rfl]
  simp only
  unfold Dk.openF
  rw [hfl, if_neg (by unfold wokenL; simp)]
  have hcl : D3.clears wokenL [D.holds 2, D.holds 3, D.holds 4, D.holds 5] = (0, D3) := by
    unfold Dk.clears
    rw [hl3]
    rfl
  rw [hcl, if_pos rfl]
/-- All that wakes meets, in its order. -/
theorem run_wakes : ∃ D1 D2 D3 D4 D5, (Dk.new 10).format 4 = (0, D1) ∧ (Wl.fresh 4).append D1 z49 = (0, D2, ⟨4, 0, [[], z49], 3, false⟩) ∧ (⟨4, 0, [[], z49], 3, false⟩ : Wl).append D2 [7] = (0, D3, wokenL) ∧ wokenL.append D3 [] = (6, D3, wokenL) ∧
    D3.opens = (0, D4, some wokenL) ∧ wokenL.check D4 [8] = (0, D5, ⟨4, 1, [[8]], 1, false⟩) ∧ D1.loose = [] ∧ D2.loose = [] ∧ D3.loose = [] ∧ D4.loose = [] := by
  obtain ⟨f1, f2, f3, f4⟩ := format_calm (n := 4) (new_calm 10) (by decide) (by decide)
  obtain ⟨D1, hD1⟩ : ∃ D1, D1 = ((Dk.new 10).format 4).2 := ⟨_, rfl⟩
  rw [← hD1] at f2 f3 f4
  have e1 : (Dk.new 10).format 4 = (0, D1) := by rw [hD1, ← f1]
  have s1 : D1.size = 10 := f2.size
  have ok1 := Wl.fresh_ok (n := 4) (by decide) (by decide)
  obtain ⟨D2, a1, a2, a3, a4⟩ := append_calm (D := D1) f2.calm ok1 rfl (by rw [s1]; decide) (b := z49) (by decide) (by decide)
  have s2 : D2.size = 10 := a2.size.trans s1
  have ok2 : (⟨4, 0, [[], z49], 3, false⟩ : Wl).Ok := ⟨by decide, by decide, by decide, by decide, by decide, by decide, by decide, by decide⟩
  obtain ⟨D3, b1, b2, b3, b4⟩ := append_calm (D := D2) (L := ⟨4, 0, [[], z49], 3, false⟩) a2.calm ok2 rfl (by rw [s2]; decide) (b := [7]) (by decide) (by decide)
  have s3 : D3.size = 10 := b2.size.trans s2
  have l1 : (leavesOf 0 ((1 : Nat) : Int) (z49.length : Int) z49).map Subtype.val = [(leafOf 0 1 49 z49).1, (leafOf 0 1 49 [0]).1] := by
    rw [leavesOf_gt (by decide), leavesOf_le (by decide)]
    rfl
  have l2 : (leavesOf 0 ((2 : Nat) : Int) (([7] : List UInt8).length : Int) [7]).map Subtype.val = [(leafOf 0 2 1 [7]).1] := by
    rw [leavesOf_le (by decide)]
    rfl
  have l0 : (leavesOf 0 ((0 : Nat) : Int) (([] : List UInt8).length : Int) []).map Subtype.val = [(leafOf 0 0 0 []).1] := by
    rw [leavesOf_le (by decide)]
    rfl
  have hb4 : ∀ k, D3.holds k = over 5 [(leafOf 0 2 1 [7]).1] (over 3 [(leafOf 0 1 49 z49).1, (leafOf 0 1 49 [0]).1] (over 0 [titleOf 0 4] (over 2 [(leafOf 0 0 0 []).1] (over 0 (List.replicate 10 zero64) (Dk.new 10).holds)))) k := by
    intro k
    have h1 : D1.holds = over 0 [titleOf 0 4] (over 2 [(leafOf 0 0 0 []).1] (over 0 (List.replicate 10 zero64) (Dk.new 10).holds)) := funext f4
    have h2 : D2.holds = over 3 [(leafOf 0 1 49 z49).1, (leafOf 0 1 49 [0]).1] D1.holds := funext fun k => (a4 k).trans (congrArg (fun xs => over 3 xs D1.holds k) l1)
    rw [← h1, ← h2]
    exact (b4 k).trans (congrArg (fun xs => over 5 xs D2.holds k) l2)
  have x0 : D3.holds 0 = titleOf 0 4 := hb4 0
  have x1 : D3.holds 1 = zero64 := hb4 1
  have x2 : D3.holds 2 = (leafOf 0 0 0 []).1 := hb4 2
  have x3 : D3.holds 3 = (leafOf 0 1 49 z49).1 := hb4 3
  have x4 : D3.holds 4 = (leafOf 0 1 49 [0]).1 := hb4 4
  have x5 : D3.holds 5 = (leafOf 0 2 1 [7]).1 := hb4 5
  obtain ⟨D4, c1, c2, c3⟩ := opens_wakes b2.calm s3 b3 x0 x1 (by rw [l0, x2]) (by rw [l1, x3, x4]) (by rw [l2, x5])
  have s4 : D4.size = 10 := c2.size.trans s3
  have ok3 : wokenL.Ok := ⟨by decide, by decide, by decide, by decide, by decide, by decide, by decide, by decide⟩
  obtain ⟨D5, d1, d2, d3⟩ := check_calm (D := D4) (L := wokenL) c2.calm ok3 rfl (by rw [s4]; decide) (b := [8]) (by decide) (by decide) (by decide)
  exact ⟨D1, D2, D3, D4, D5, e1, a1, b1, rfl, c1, d1, f3, a3, b3, c3⟩
end Go.Proofs.Ytomgdfoahfhijaa
