/- Rows of acts, as an argument gives them. -/
import Derived.Test.YtomgdfoahfhijaaLaa
import Derived.Test.YtomgdfoahfhijaaSee
set_option linter.unusedVariables false
set_option linter.unusedSimpArgs false
namespace Go.Proofs.Ytomgdfoahfhijaa
open Go.RowKit

def bls (l : List Bool) : List Value := l.map .bool
structure Ac where
  kind : Int
  n : Int
  fill : UInt8
  keep : List Bool
  ka : Option Addr
  kc : Nat
def Ac.kv (x : Ac) : Value := .slice x.ka x.keep.length x.kc
def Ac.cells (x : Ac) : List Value := [.int .i64 x.kind, .int .i64 x.n, .int .u8 (x.fill.toNat : Int), x.kv]
def Ac.val (x : Ac) : Value := actV x.kind x.n x.fill x.kv
def Ac.Reads (w : World) (x : Ac) : Prop := Sle w 1 x.kv (x.keep.map fun b => [.bool b])
def IsActs (w : World) (v : Value) (xs : List Ac) : Prop := Sle w 4 v (xs.map Ac.cells) ∧ ∀ x ∈ xs, x.Reads w
theorem Ac.Reads.upd {w w' : World} {x : Ac} (h : x.Reads w) (hu : Upd NoS w w') : x.Reads w' := Sle.upd h hu
theorem IsActs.upd {w w' : World} {v : Value} {xs : List Ac} (h : IsActs w v xs) (hu : Upd NoS w w') : IsActs w' v xs := ⟨h.1.upd hu, fun x hx => (h.2 x hx).upd hu⟩
theorem IsActs.shape {w : World} {v : Value} {xs : List Ac} (h : IsActs w v xs) : ∃ a c, v = .slice a xs.length c ∧ xs.length ≤ c ∧ c ≤ maxLen := by
  obtain ⟨a, c, h1, h2, h3⟩ := h.1.shape
  rw [List.length_map] at h1 h2
  exact ⟨a, c, h1, h2, h3⟩
theorem IsActs.at {w : World} {a : Option Addr} {n c i : Nat} {xs : List Ac} (h : IsActs w (.slice a n c) xs) {x : Ac} (hx : xs[i]? = some x) :
    x.Reads w ∧ ∃ g o, a = some ⟨g, o, none⟩ ∧ w.cell? ⟨g, o + i * 4, none⟩ = some (.int .i64 x.kind) ∧ w.cell? ⟨g, o + i * 4 + 1, none⟩ = some (.int .i64 x.n) ∧ w.cell? ⟨g, o + i * 4 + 2, none⟩ = some (.int .u8 (x.fill.toNat : Int)) ∧ w.cell? ⟨g, o + i * 4 + 3, none⟩ = some x.kv := by
  obtain ⟨g, o, rfl, h1⟩ := h.1.at (i := i) (l := x.cells) (by rw [List.getElem?_map, hx]; rfl)
  exact ⟨h.2 x (List.mem_of_getElem? hx), g, o, rfl, h1 0 _ rfl, h1 1 _ rfl, h1 2 _ rfl, h1 3 _ rfl⟩
section
variable {H : Type} {enc : TypeId × Value → H} {w : World} {base : Nat} {spare : Nat → Bool} {held : Bool}
theorem bools_of_trod {fuel : Nat} {cs : List Value} {x : DataW H × List MemPlace} (h : DataW.trod enc Try.prog w base spare held fuel 31 cs = some x) :
    ∃ (v : Value) (xs : List Bool), cs = [v] ∧ Sle w 1 v (xs.map fun b => [.bool b]) := by
  obtain ⟨v, xs, h1, h2, _⟩ := sle_of_trod (α := Bool) (size := 1) Try.underlying31 (by kernel_rfl) (by decide) (fun b => [.bool b]) (fun _ => True) (fun fuel cs y hy => by
    obtain ⟨b, rfl, _⟩ := DataW.trod_bool Try.underlying4 hy
    exact ⟨b, rfl, trivial⟩) h
  exact ⟨v, xs, h1, h2⟩
theorem u8_of {n : Int} (h : (Lit.int .u8 n).wf = true) : ∃ b : UInt8, n = (b.toNat : Int) := by
  have hb := bounds_u8 h
  refine ⟨UInt8.ofNat n.toNat, ?_⟩
  rw [UInt8.toNat_ofNat']
  omega
theorem list4 {α : Type} {l : List α} (h : l.length = 4) : ∃ a b c d, l = [a, b, c, d] := by
  rcases l with _ | ⟨a, _ | ⟨b, _ | ⟨c, _ | ⟨d, _ | ⟨e, l⟩⟩⟩⟩⟩ <;> simp at h
  exact ⟨a, b, c, d, rfl⟩
theorem act_of_trod {fuel : Nat} {cs : List Value} {y : DataW H × List MemPlace} (h : DataW.trod enc Try.prog w base spare held fuel 33 cs = some y) : ∃ x : Ac, cs = x.cells ∧ x.Reads w := by
  obtain ⟨xs, m, _, _, hl, hxs, hf⟩ := DataW.trod_struct Try.underlying33 h
  have c1 : Try.prog.cellsOf 3 = 1 := by kernel_rfl
  have c2 : Try.prog.cellsOf 5 = 1 := by kernel_rfl
  have c3 : Try.prog.cellsOf 31 = 1 := by kernel_rfl
  have c4 : Try.prog.cellsOf 33 = 4 := by kernel_rfl
  rw [c4] at hl
  obtain ⟨q0, q1, q2, q3, rfl⟩ := list4 hl
  · clear c4
    have g0 := hf 0 { name := "Kind", type := 3, offset := 0, embedded := false, tag := "", pkgPath := "", byteOffset := 0 } rfl
    have g1 := hf 1 { name := "N", type := 3, offset := 1, embedded := false, tag := "", pkgPath := "", byteOffset := 8 } rfl
    have g2 := hf 2 { name := "Fill", type := 5, offset := 2, embedded := false, tag := "", pkgPath := "", byteOffset := 16 } rfl
    have g3 := hf 3 { name := "Keep", type := 31, offset := 3, embedded := false, tag := "", pkgPath := "", byteOffset := 24 } rfl
    have hsz : xs.length = 4 := hxs
    rw [List.getElem?_eq_getElem (by omega)] at g0 g1 g2 g3
    simp only [c1, c2, c3, List.drop_zero, List.drop_succ_cons, List.take_succ_cons, List.take_zero] at g0 g1 g2 g3
    obtain ⟨k, e0, _, _⟩ := DataW.trod_int Try.underlying3 g0
    obtain ⟨n, e1, _, _⟩ := DataW.trod_int Try.underlying3 g1
    obtain ⟨f, e2, _, hw⟩ := DataW.trod_int Try.underlying5 g2
    obtain ⟨v, bs, e3, hv⟩ := bools_of_trod g3
    obtain ⟨b, rfl⟩ := u8_of hw
    obtain ⟨a, c, rfl, _, _⟩ := hv.shape
    rw [List.length_map] at hv e3
    cases e0; cases e1; cases e2; cases e3
    exact ⟨⟨k, n, b, bs, a, c⟩, rfl, hv⟩
theorem acts_of_trod {fuel : Nat} {cs : List Value} {y : DataW H × List MemPlace} (h : DataW.trod enc Try.prog w base spare held fuel 25 cs = some y) : ∃ (v : Value) (xs : List Ac), cs = [v] ∧ IsActs w v xs := by
  obtain ⟨v, xs, h1, h2, h3⟩ := sle_of_trod (α := Ac) (size := 4) Try.underlying25 (by kernel_rfl) (by decide) Ac.cells (fun x => x.Reads w) (fun _ _ _ hy => act_of_trod hy) h
  exact ⟨v, xs, h1, h2, h3⟩
end
end Go.Proofs.Ytomgdfoahfhijaa
