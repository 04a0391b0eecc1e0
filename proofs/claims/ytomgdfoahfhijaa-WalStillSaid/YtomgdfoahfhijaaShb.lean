/- sha: a block. -/
import Derived.Test.YtomgdfoahfhijaaShc
import Derived.Test.YtomgdfoahfhijaaCut
set_option linter.unusedVariables false
set_option linter.unusedSimpArgs false
namespace Go.Proofs.Ytomgdfoahfhijaa
open Go.RowKit

@[simp] theorem length_uvs (l : List UInt32) : (uvs l).length = l.length := by simp [uvs]
theorem uvs_get {l : List UInt32} {i : Nat} (h : i < l.length) : (uvs l)[i]? = some (.int .u32 (l[i].toNat : Int)) := by simp [uvs, uv, h]
def at8 (l : List UInt8) (i : Nat) : UInt8 := l.getD i 0
def at32 (l : List UInt32) (i : Nat) : UInt32 := l.getD i 0
def shaWord (b : List UInt8) (i : Nat) : UInt32 :=
  (((at8 b (4 * i)).toUInt32 <<< 24 ||| (at8 b (4 * i + 1)).toUInt32 <<< 16) ||| (at8 b (4 * i + 2)).toUInt32 <<< 8) ||| (at8 b (4 * i + 3)).toUInt32

theorem cell_bytes {w : World} {g : Nat} {l : List UInt8} {t : TypeId} {fr : Nat × Nat} (h : w.heap[g]? = some (.cells (bvs l).toArray t fr)) (i : Nat) (hi : i < l.length) : w.cell? ⟨g, i, none⟩ = some (.int .u8 ((at8 l i).toNat : Int)) := by
  rw [cell_at h]; simp [at8, bvs, bv, hi]
theorem cell_words {w : World} {g : Nat} {l : List UInt32} {t : TypeId} {fr : Nat × Nat} (h : w.heap[g]? = some (.cells (uvs l).toArray t fr)) (i : Nat) (hi : i < l.length) : w.cell? ⟨g, i, none⟩ = some (.int .u32 ((at32 l i).toNat : Int)) := by
  rw [cell_at h]; simp [at32, uvs, uv, hi]

def wsOf (b : List UInt8) (i : Nat) : List UInt32 := (List.range i).map (shaWord b) ++ List.replicate (16 - i) 0
theorem length_wsOf (b : List UInt8) {i : Nat} (h : i ≤ 16) : (wsOf b i).length = 16 := by simp [wsOf]; omega
theorem wsOf_set (b : List UInt8) {i : Nat} (h : i < 16) : (uvs (wsOf b i)).set i (uv (shaWord b i)) = uvs (wsOf b (i + 1)) := by
  obtain ⟨k, hk⟩ : ∃ k, 16 - i = k + 1 := ⟨15 - i, by omega⟩
  have hk' : 16 - (i + 1) = k := by omega
  simp only [wsOf, uvs, hk, hk', List.replicate_succ, List.map_append, List.map_cons, List.range_succ, List.map_nil]
  rw [List.set_append_right _ _ (by simp)]
  simp
theorem bits_shaWord (a b c d : UInt8) : bits .or .u32 (bits .or .u32 (bits .or .u32 ((a.toNat : Int) * 16777216) ((b.toNat : Int) * 65536)) ((c.toNat : Int) * 256)) (d.toNat : Int)
    = (((a.toUInt32 <<< 24 ||| b.toUInt32 <<< 16) ||| c.toUInt32 <<< 8) ||| d.toUInt32).toNat := by
  have ha := a.toNat_lt
  have hb := b.toNat_lt
  have hc := c.toNat_lt
  have ea : ((a.toNat : Int) * (16777216 : Int)) = ((a.toUInt32 <<< 24).toNat : Int) := by
    rw [UInt32.toNat_shiftLeft, Nat.shiftLeft_eq]; simp; omega
  have eb : ((b.toNat : Int) * (65536 : Int)) = ((b.toUInt32 <<< 16).toNat : Int) := by
    rw [UInt32.toNat_shiftLeft, Nat.shiftLeft_eq]; simp; omega
  have ec : ((c.toNat : Int) * (256 : Int)) = ((c.toUInt32 <<< 8).toNat : Int) := by
    rw [UInt32.toNat_shiftLeft, Nat.shiftLeft_eq]; simp; omega
  have ed : (d.toNat : Int) = (d.toUInt32.toNat : Int) := by simp
  rw [ea, eb, ec, ed, u32_or, u32_or, u32_or]

theorem sizeW : (Try.prog.info? 30).map (·.size) = some 1 := by kernel_rfl
def ix (k t : Nat) : Nat := (k + 7 * t) % 8
theorem ix_lt (k t : Nat) : ix k t < 8 := Nat.mod_lt _ (by decide)
theorem ixAll : ((List.range 64).all fun t => (List.range 8).all fun k => decide (bits .and .i64 ((k : Int) - (t : Int)) 7 = ((ix k t : Nat) : Int))) = true := by kernel_rfl
theorem ix_bits {k t : Nat} (hk : k < 8) (ht : t < 64) : bits .and .i64 ((k : Int) - (t : Int)) 7 = ((ix k t : Nat) : Int) := by
  have h := List.all_eq_true.1 ixAll t (by simpa using ht)
  exact of_decide_eq_true (List.all_eq_true.1 h k (by simpa using hk))
theorem ix_bits0 {t : Nat} (ht : t < 64) : bits .and .i64 (-(t : Int)) 7 = ((ix 0 t : Nat) : Int) := by
  have := ix_bits (k := 0) (by decide) ht
  simpa using this
def shaStep (t : Nat) (st : List UInt32 × List UInt32) : List UInt32 × List UInt32 :=
  let W := if 16 ≤ t then st.1.set (t % 16) (at32 st.1 (t % 16) + (mixB 17 19 10 pushd (at32 st.1 ((t - 2) % 16)) + at32 st.1 ((t - 7) % 16) + mixB 7 18 3 pushd (at32 st.1 ((t - 15) % 16)))) else st.1
  let R := st.2
  let a := at32 R (ix 0 t)
  let b := at32 R (ix 1 t)
  let c := at32 R (ix 2 t)
  let e := at32 R (ix 4 t)
  let f := at32 R (ix 5 t)
  let g := at32 R (ix 6 t)
  let s := at32 R (ix 7 t) + mixB 6 11 25 rotr e + (g ^^^ (e &&& (f ^^^ g))) + at32 shaK t + at32 W (t % 16)
  let R1 := R.set (ix 3 t) (at32 R (ix 3 t) + s)
  (W, R1.set (ix 7 t) (s + mixB 2 13 22 rotr a + ((a &&& c) ||| (b &&& (a ||| c)))))
def shaRun (b : List UInt8) (h : List UInt32) : Nat → List UInt32 × List UInt32
  | 0 => (wsOf b 16, h)
  | t + 1 => shaStep t (shaRun b h t)
theorem shaRun_len (b : List UInt8) (h : List UInt32) (hh : h.length = 8) : ∀ t, (shaRun b h t).1.length = 16 ∧ (shaRun b h t).2.length = 8
  | 0 => ⟨length_wsOf b (by omega), hh⟩
  | t + 1 => by
    obtain ⟨h1, h2⟩ := shaRun_len b h hh t
    simp only [shaRun, shaStep, List.length_set, h2, and_true]
    split <;> simp [h1]
def shaOut (b : List UInt8) (h : List UInt32) : List UInt32 := (List.range 8).map fun i => at32 h i + at32 (shaRun b h 64).2 i

theorem shaStep_snd {t : Nat} {st : List UInt32 × List UInt32} {W : List UInt32} {sv v3 v7 : UInt32} (hW : W = (shaStep t st).1)
    (hs : sv = at32 st.2 (ix 7 t) + mixB 6 11 25 rotr (at32 st.2 (ix 4 t)) + (at32 st.2 (ix 6 t) ^^^ (at32 st.2 (ix 4 t) &&& (at32 st.2 (ix 5 t) ^^^ at32 st.2 (ix 6 t)))) + at32 shaK t + at32 W (t % 16))
    (h3 : v3 = at32 st.2 (ix 3 t) + sv) (h7 : v7 = sv + mixB 2 13 22 rotr (at32 st.2 (ix 0 t)) + ((at32 st.2 (ix 0 t) &&& at32 st.2 (ix 2 t)) ||| (at32 st.2 (ix 1 t) &&& (at32 st.2 (ix 0 t) ||| at32 st.2 (ix 2 t))))) :
    (shaStep t st).2 = (st.2.set (ix 3 t) v3).set (ix 7 t) v7 := by
  subst h7 h3 hs hW; rfl
theorem u32_add3 (x y z : UInt32) : ((x.toNat : Int) + (y.toNat : Int) + (z.toNat : Int)) % 4294967296 = ((x + y + z).toNat : Int) := by
  rw [← u32_add (x + y) z, ← u32_add x y]; omega
def shaSum (h R : List UInt32) (i : Nat) : List UInt32 := (List.range i).map (fun j => at32 h j + at32 R j) ++ h.drop i
theorem length_shaSum {h R : List UInt32} {i : Nat} (hi : i ≤ h.length) : (shaSum h R i).length = h.length := by simp [shaSum]; omega
theorem at_shaSum {h R : List UInt32} {i : Nat} (hi : i < h.length) : at32 (shaSum h R i) i = at32 h i := by
  simp [at32, shaSum, List.getElem?_append]
theorem shaSum_set {h R : List UInt32} {i : Nat} (hi : i < h.length) : (shaSum h R i).set i (at32 h i + at32 R i) = shaSum h R (i + 1) := by
  simp only [shaSum, List.range_succ, List.map_append, List.map_cons, List.map_nil]
  rw [List.set_append_right _ _ (by simp)]
  rw [List.drop_eq_getElem_cons hi, List.length_map, List.length_range, Nat.sub_self, List.set_cons_zero, List.append_assoc]
  rfl

theorem run_index_K (t : Nat) (ht : t < 64) (w : World) : (Instr.index 152 (.agg (uvs shaK).toArray) (.int .i64 (t : Int))).run Try.prog w = .ok (.int .u32 ((at32 shaK t).toNat : Int)) w := by
  have hl : shaK.length = 64 := rfl
  refine run_index_one under64 Try.underlying30 rfl sizeW ht ?_ w
  simp [uvs, uv, at32, hl, ht]
set_option maxRecDepth 100000 in
set_option maxHeartbeats 4000000 in

theorem shaBlock (w : World) (h : List UInt32) (b : List UInt8) (hh : h.length = 8) (hb : b.length = 64) :
    Calls Try.prog 92 #[.agg (uvs h).toArray, .agg (bvs b).toArray] w fun e w' => e = .returned (.agg (uvs (shaOut b h)).toArray) ∧ Upd NoS w w' := by
  go_enter Try.func92, Try.ntmps92
  go_wp2
  refine wp_name ?_
  intro W0 hW0
  have hu : Upd NoS w W0 := by rw [hW0]; exact ((((((((Upd.refl NoS w).alloc _).alloc _).alloc _).alloc _).alloc _).alloc _).alloc _).alloc _
  have hz : W0.heap.size = w.heap.size + 8 := by rw [hW0]; simp
  have hH : W0.heap[w.heap.size]? = some (.cells (uvs h).toArray 142 (0, 0)) := by rw [hW0]; repeat (first | exact heap_new' (by simp) | apply heap_old)
  have hB : W0.heap[w.heap.size + 1]? = some (.cells (bvs b).toArray 79 (0, 0)) := by rw [hW0]; repeat (first | exact heap_new' (by simp) | apply heap_old)
  have hM : W0.heap[w.heap.size + 1 + 1 + 1]? = some (.cells #[.int .i64 7, .int .i64 18, .int .i64 3, .func (.func 94) #[] #[]] 150 (0, 0)) ∧
    W0.heap[w.heap.size + 1 + 1 + 1 + 1]? = some (.cells #[.int .i64 17, .int .i64 19, .int .i64 10, .func (.func 94) #[] #[]] 150 (0, 0)) ∧
    W0.heap[w.heap.size + 1 + 1 + 1 + 1 + 1]? = some (.cells #[.int .i64 2, .int .i64 13, .int .i64 22, .func (.func 95) #[] #[]] 150 (0, 0)) ∧
    W0.heap[w.heap.size + 1 + 1 + 1 + 1 + 1 + 1]? = some (.cells #[.int .i64 6, .int .i64 11, .int .i64 25, .func (.func 95) #[] #[]] 150 (0, 0)) := by
    rw [hW0]; refine ⟨?_, ?_, ?_, ?_⟩ <;> repeat (first | exact heap_new' (by simp) | apply heap_old)
  have hR : ∃ l : List UInt32, l.length = 8 ∧ W0.heap[w.heap.size + 1 + 1]? = some (.cells (uvs l).toArray 142 (0, 0)) := ⟨List.replicate 8 0, by simp, by rw [hW0]; repeat (first | exact heap_new' (by simp) | apply heap_old)⟩
  have hS : W0.heap[w.heap.size + 1 + 1 + 1 + 1 + 1 + 1 + 1]? = some (.cells (uvs (wsOf b 0)).toArray 151 (0, 0)) := by rw [hW0]; exact heap_new' (by simp)
  clear hW0
  generalize hwn : w.heap.size = n at *
  have HWN := Lib.hid hwn
  clear hwn
  obtain ⟨S, hSn⟩ : ∃ S, S = n + 1 + 1 + 1 + 1 + 1 + 1 + 1 := ⟨_, rfl⟩
  have HH := Lib.hid hH
  have HB := Lib.hid hB
  have HM := Lib.hid hM
  have HR := Lib.hid hR
  have HS := Lib.hid hS
  have HU := Lib.hid hu
  clear hH hB hM hR hS hu
  rw [← hSn] at HS ⊢
  have HSn := Lib.hid hSn
  clear hSn
  go_loopw [27] (fun kv wr => ∃ i : Nat, i ≤ 16 ∧ kv = .int .i64 i ∧ wr.heap[S]? = some (.cells (uvs (wsOf b i)).toArray 151 (0, 0)) ∧ Upd (OneS S) W0 wr) (fun kv _ => 16 - (intOf kv).toNat)
  case atStart => exact ⟨0, by omega, rfl, HS.out, Upd.refl _ _⟩
  case round =>
    obtain ⟨i, hi, rfl, hSr, hur⟩ := hrel
    by_cases hlt : i < 16
    · have hBr := hur.heap HB.out (by intro e; have := HSn.out; simp [OneS] at e; omega)
      have c0 := cell_bytes hBr (4 * i) (by omega)
      have c1 := cell_bytes hBr (4 * i + 1) (by omega)
      have c2 := cell_bytes hBr (4 * i + 2) (by omega)
      have c3 := cell_bytes hBr (4 * i + 3) (by omega)
      have cs := cell_words hSr i (by rw [length_wsOf b hi]; omega)
      have fs := free_at hSr i
      have l0 := (at8 b (4 * i)).toNat_lt
      have l1 := (at8 b (4 * i + 1)).toNat_lt
      have l2 := (at8 b (4 * i + 2)).toNat_lt
      have l3 := (at8 b (4 * i + 3)).toNat_lt
      have HSr := Lib.hid (heap_set hSr i (uv (shaWord b i)))
      have HUr := Lib.hid hur
      clear hBr hSr hur
      go_wp2
      have s0 : IntKind.i64.wrap (4 * (i : Int)) = 4 * (i : Int) := IntWalk.i64_in _ (by omega)
      have p0 : (0 : Int) ≤ 4 * (i : Int) := by omega
      have t0 : (4 * (i : Int)).toNat = 4 * i := by omega
      have q0 : 4 * (i : Int) < 64 := by omega
      have s1 : IntKind.i64.wrap (4 * (i : Int) + 1) = 4 * (i : Int) + 1 := IntWalk.i64_in _ (by omega)
      have p1 : (0 : Int) ≤ 4 * (i : Int) + 1 := by omega
      have t1 : (4 * (i : Int) + 1).toNat = 4 * i + 1 := by omega
      have q1 : 4 * (i : Int) + 1 < 64 := by omega
      have s2 : IntKind.i64.wrap (4 * (i : Int) + 2) = 4 * (i : Int) + 2 := IntWalk.i64_in _ (by omega)
      have p2 : (0 : Int) ≤ 4 * (i : Int) + 2 := by omega
      have t2 : (4 * (i : Int) + 2).toNat = 4 * i + 2 := by omega
      have q2 : 4 * (i : Int) + 2 < 64 := by omega
      have s3 : IntKind.i64.wrap (4 * (i : Int) + 3) = 4 * (i : Int) + 3 := IntWalk.i64_in _ (by omega)
      have p3 : (0 : Int) ≤ 4 * (i : Int) + 3 := by omega
      have t3 : (4 * (i : Int) + 3).toNat = 4 * i + 3 := by omega
      have q3 : 4 * (i : Int) + 3 < 64 := by omega
      go_still_tail 31, (by kernel_rfl)
      clear s0 s1 s2 s3 p0 p1 p2 p3 t0 t1 t2 t3 q0 q1 q2 q3
      go_wp2
      rw [bits_shaWord]
      refine ⟨⟨i + 1, by omega, by go_num, ?_, (HUr.out.setCell ⟨S, i, none⟩ _ (fun _ => rfl)).drew⟩, by simp [intOf]; omega⟩
      have := HSr.out
      rw [List.setIfInBounds_toArray, wsOf_set b hlt] at this
      exact this
    · obtain rfl : i = 16 := by omega
      have hHr := hur.heap HH.out (by intro e; have := HSn.out; simp [OneS] at e; omega)
      have hsz := hur.size
      have HSr := Lib.hid hSr
      have HUr := Lib.hid hur
      have HHr := Lib.hid hHr
      clear hSr hur hHr
      go_wp2_with (first
        | (refine wpList_load0 HHr.out Try.underlying142 rfl size8 (by simp [hh]) rfl (x := .tmp 2) rfl rfl ?_)
        | (refine wpList_store0 (heap_new _ _) size8 (by simp [hh]) rfl (uvs_one h) rfl (x := .tmp 11) (y := .tmp 62) rfl rfl rfl ?_; intro w1 hg1 hu1 hs1))
      refine (shaConstants _).mono ?_
      rintro e w2 ⟨rfl, hu2⟩
      obtain ⟨Rb, hRb⟩ : ∃ Rb, Rb = wr.heap.size := ⟨_, rfl⟩
      have hSn := HSn.out
      have hwz : W0.heap.size ≤ wr.heap.size := hsz
      have hu12 : Upd NoS wr w2 := (((Upd.refl NoS wr).alloc _).trans hu1 (fun k hk e => absurd hk (by rw [show k = wr.heap.size from e]; exact Nat.lt_irrefl _))).tr hu2
      have hu02 : Upd (OneS S) W0 w2 := HUr.out.trNo hu12
      have HRb := Lib.hid (hu2.heap hg1 id)
      have HSb := Lib.hid (hu12.heap HSr.out id)
      have hM := HM.out
      have HM1 := Lib.hid (hu02.heap hM.1 (by intro e; simp [OneS] at e; omega))
      have HM2 := Lib.hid (hu02.heap hM.2.1 (by intro e; simp [OneS] at e; omega))
      have HM3 := Lib.hid (hu02.heap hM.2.2.1 (by intro e; simp [OneS] at e; omega))
      have HM4 := Lib.hid (hu02.heap hM.2.2.2 (by intro e; simp [OneS] at e; omega))
      have HHb := Lib.hid (hu02.heap HH.out (by intro e; simp [OneS] at e; omega))
      obtain ⟨l0, hl0, hR0⟩ := HR.out
      have HZb := Lib.hid (hu02.heap hR0 (by intro e; simp [OneS] at e; omega))
      have HU2 := Lib.hid (show Upd NoS w w2 from HU.out.trans hu02 (fun k hk e => absurd hk (by rw [show k = S from e, HWN.out]; omega)))
      have hRbS : Rb ≠ S := by omega
      have hRbn : Rb ≠ n + 1 + 1 + 1 ∧ Rb ≠ n + 1 + 1 + 1 + 1 ∧ Rb ≠ n + 1 + 1 + 1 + 1 + 1 ∧ Rb ≠ n + 1 + 1 + 1 + 1 + 1 + 1 ∧ Rb ≠ n ∧ Rb ≠ n + 1 + 1 := by omega
      have hSn2 : S ≠ n + 1 + 1 + 1 ∧ S ≠ n + 1 + 1 + 1 + 1 ∧ S ≠ n + 1 + 1 + 1 + 1 + 1 ∧ S ≠ n + 1 + 1 + 1 + 1 + 1 + 1 ∧ S ≠ n ∧ S ≠ n + 1 + 1 := by omega
      have HL0 := Lib.hid hl0
      have HN4 := Lib.hid (show n ≤ Rb by omega)
      have HN1 := Lib.hid hRbS
      have HN2 := Lib.hid hRbn
      have HN3 := Lib.hid hSn2
      rw [← hRb] at HRb ⊢
      clear hSn hwz hu12 hu02 hM hR0 hl0 hu2 hg1 hu1 hs1 hRb hRbS hRbn hSn2 hsz hz HH HB HM HR HS HU HSr HUr HHr
      go_wp2
      go_loopw [64] (fun kv wr => ∃ t : Nat, t ≤ 64 ∧ kv = .int .i64 t ∧ wr.heap[S]? = some (.cells (uvs (shaRun b h t).1).toArray 151 (0, 0)) ∧ wr.heap[Rb]? = some (.cells (uvs (shaRun b h t).2).toArray 142 (0, 0)) ∧ Upd (fun k => k = S ∨ k = Rb) w2 wr) (fun kv _ => 64 - (intOf kv).toNat)
      case atStart => exact ⟨0, by omega, rfl, HSb.out, HRb.out, Upd.refl _ _⟩
      case round =>
        obtain ⟨t, ht, rfl, hSr, hRr, hur⟩ := hrel
        by_cases htl : t < 64
        · have HX := run_index_K t htl
          obtain ⟨hl1, hl2⟩ := shaRun_len b h hh t
          obtain ⟨st, hst⟩ : ∃ st, st = shaRun b h t := ⟨_, rfl⟩
          rw [← hst] at hl1 hl2 hSr hRr
          have b0 : t % 16 < 16 := Nat.mod_lt _ (by decide)
          have HSr := Lib.hid hSr
          have HRr := Lib.hid hRr
          have HUr := Lib.hid hur
          have Hst := Lib.hid hst
          have HL := Lib.hid (And.intro hl1 hl2)
          clear hSr hRr hur hst hl1 hl2
          rcases Nat.lt_or_ge t 16 with ht16 | ht16
          focus
            go_wp2
            refine wp_name ?_
            intro wA hA
            have HA : Hid (∃ W, W = (shaStep t st).1 ∧ W.length = 16 ∧ wA.heap[S]? = some (.cells (uvs W).toArray 151 (0, 0)) ∧ Upd (OneS S) wr wA) :=
              Lib.hid ⟨st.1, by simp only [shaStep]; rw [if_neg (by omega)], HL.out.1, by rw [hA]; exact HSr.out, by rw [hA]; exact Upd.refl _ _⟩
            clear hA
          rotate_left
          focus
            obtain ⟨i2, hi2⟩ : ∃ i, i = (t - 2) % 16 := ⟨_, rfl⟩
            obtain ⟨i7, hi7⟩ : ∃ i, i = (t - 7) % 16 := ⟨_, rfl⟩
            obtain ⟨i15, hi15⟩ : ∃ i, i = (t - 15) % 16 := ⟨_, rfl⟩
            have b2 : i2 < 16 := by omega
            have b7 : i7 < 16 := by omega
            have b15 : i15 < 16 := by omega
            have b2' : (i2 : Int) < 16 := by omega
            have b7' : (i7 : Int) < 16 := by omega
            have b15' : (i15 : Int) < 16 := by omega
            have m2 : ((t : Int) - 2).tmod 16 = (i2 : Int) := by rw [Int.tmod_eq_emod_of_nonneg (by omega)]; omega
            have m7 : ((t : Int) - 7).tmod 16 = (i7 : Int) := by rw [Int.tmod_eq_emod_of_nonneg (by omega)]; omega
            have m15 : ((t : Int) - 15).tmod 16 = (i15 : Int) := by rw [Int.tmod_eq_emod_of_nonneg (by omega)]; omega
            have s2 : IntKind.i64.wrap ((t : Int) - 2) = (t : Int) - 2 := IntWalk.i64_in _ (by omega)
            have s7 : IntKind.i64.wrap ((t : Int) - 7) = (t : Int) - 7 := IntWalk.i64_in _ (by omega)
            have s15 : IntKind.i64.wrap ((t : Int) - 15) = (t : Int) - 15 := IntWalk.i64_in _ (by omega)
            have hSr := HSr.out
            have hur := HUr.out
            have hN3 := HN3.out
            have hN2 := HN2.out
            have hl1 := HL.out.1
            have h1r := hur.heap HM1.out (by intro e; omega)
            have h2r := hur.heap HM2.out (by intro e; omega)
            have n2 : i2 ≠ t % 16 := by omega
            have n7 : i7 ≠ t % 16 := by omega
            have n15 : i15 ≠ t % 16 := by omega
            have MK0 : ∀ w', Upd NoS wr w' → w'.cell? ⟨S, t % 16, none⟩ = some (.int .u32 ((at32 st.1 (t % 16)).toNat : Int)) ∧ w'.cell? ⟨S, i2, none⟩ = some (.int .u32 ((at32 st.1 i2).toNat : Int))
                ∧ w'.cell? ⟨S, i7, none⟩ = some (.int .u32 ((at32 st.1 i7).toNat : Int)) ∧ w'.cell? ⟨S, i15, none⟩ = some (.int .u32 ((at32 st.1 i15).toNat : Int))
                ∧ w'.cell? ⟨n + 1 + 1 + 1, 0, none⟩ = some (.int .i64 7) ∧ w'.cell? ⟨n + 1 + 1 + 1, 1, none⟩ = some (.int .i64 18) ∧ w'.cell? ⟨n + 1 + 1 + 1, 2, none⟩ = some (.int .i64 3) ∧ w'.cell? ⟨n + 1 + 1 + 1, 3, none⟩ = some (.func (.func 94) #[] #[])
                ∧ w'.cell? ⟨n + 1 + 1 + 1 + 1, 0, none⟩ = some (.int .i64 17) ∧ w'.cell? ⟨n + 1 + 1 + 1 + 1, 1, none⟩ = some (.int .i64 19) ∧ w'.cell? ⟨n + 1 + 1 + 1 + 1, 2, none⟩ = some (.int .i64 10) ∧ w'.cell? ⟨n + 1 + 1 + 1 + 1, 3, none⟩ = some (.func (.func 94) #[] #[])
                := fun w' hu => by
              have h0 := hu.heap hSr id
              have h1 := hu.heap h1r id
              have h2 := hu.heap h2r id
              exact ⟨cell_words h0 _ (by omega), cell_words h0 _ (by omega), cell_words h0 _ (by omega), cell_words h0 _ (by omega), cell_at h1 0, cell_at h1 1, cell_at h1 2, cell_at h1 3, cell_at h2 0, cell_at h2 1, cell_at h2 2, cell_at h2 3⟩
            have MK := Lib.hid MK0
            have hcw := cell_words hSr (t % 16) (by omega)
            have hfw := free_at hSr (t % 16)
            have Hi := Lib.hid (And.intro hi2 (And.intro hi7 hi15))
            have HC := Lib.hid (And.intro hcw hfw)
            clear hcw hN3 hN2
            clear MK0 hSr h1r h2r n2 n7 n15 hfw hi2 hi7 hi15 hl1 hur
            go_wp2
            refine wp_region_canon (fun w' => Upd NoS wr w') 25 2 [9, 22] [0, 1, 2, 3, 4, 5, 6, 7, 8, 10, 11, 12, 13, 14, 16, 17, 18, 19, 20, 21, 9, 15, 22, 23, 24] rfl (by kernel_rfl) (by decide) (by kernel_rfl) (by kernel_rfl) (by kernel_rfl) (by kernel_rfl) (by kernel_rfl) ((Upd.refl _ _).drew) ?_
            simp only [List.take_succ_cons, List.take_zero, List.drop_succ_cons, List.drop_zero, pick, List.getElem?_cons_succ, List.getElem?_cons_zero, Nat.reduceBEq, List.contains_cons, List.contains_nil, Bool.or_self, Bool.or_false, Bool.or_true, Bool.true_or, Bool.false_or]
            repeat (refine wpD_quiet ?_ (fun w' hS => ?_) ?_; rotate_left; (· obtain ⟨f1, f2, f3, f4, f5, f6, f7, f8, f9, f10, f11, f12⟩ := MK.out w' hS; go_simp; (try with_reducible rfl)); (try simp only [Act.put, List.setIfInBounds_toArray, List.set_cons_succ, List.set_cons_zero]))
            refine wpD_loud (fun K hK => ?_)
            go_wp2_with fail

            refine (mixS1 _ _).mono ?_
            rintro e w3 ⟨rfl, hu3⟩
            go_wp2_with fail
            refine hK _ _ ((Upd.refl _ _).drew.tr hu3) ?_
            repeat (refine wpD_quiet ?_ (fun w' hS => ?_) ?_; rotate_left; (· obtain ⟨f1, f2, f3, f4, f5, f6, f7, f8, f9, f10, f11, f12⟩ := MK.out w' hS; go_simp; (try with_reducible rfl)); (try simp only [Act.put, List.setIfInBounds_toArray, List.set_cons_succ, List.set_cons_zero]))
            refine wpD_loud (fun K hK => ?_)
            go_wp2_with fail
            refine (mixS0 _ _).mono ?_
            rintro e w4 ⟨rfl, hu4⟩
            go_wp2_with fail
            refine hK _ _ (((Upd.refl _ _).drew.tr hu3).tr hu4) ?_
            repeat (refine wpD_quiet ?_ (fun w' hS => ?_) ?_; rotate_left; (· obtain ⟨f1, f2, f3, f4, f5, f6, f7, f8, f9, f10, f11, f12⟩ := MK.out w' hS; go_simp; (try with_reducible rfl)); (try simp only [Act.put, List.setIfInBounds_toArray, List.set_cons_succ, List.set_cons_zero]))
            refine wpD_nil ?_
            have hu34 : Upd NoS wr w4 := ((Upd.refl _ _).drew.tr hu3).tr hu4
            have hcc := hu34.cell HC.out.1 id
            have hcf := hu34.free HC.out.1 HC.out.2 id
            have hS4 := hu34.heap HSr.out id
            go_wp2
            refine NoPanic.normal ?_
            go_wp2
            refine wp_name ?_
            intro wA hA
            simp only [u32_add2, u32_add] at hA
            have HA : Hid (∃ W, W = (shaStep t st).1 ∧ W.length = 16 ∧ wA.heap[S]? = some (.cells (uvs W).toArray 151 (0, 0)) ∧ Upd (OneS S) wr wA) := by
              refine Lib.hid ⟨_, rfl, ?_, ?_, by rw [hA]; exact (hu34.mono (fun _ _ h => h.elim)).setCell _ _ (fun _ => rfl)⟩
              · simp only [shaStep]; rw [if_pos ht16, List.length_set]; exact HL.out.1
              · rw [hA, heap_set hS4, List.setIfInBounds_toArray]
                simp only [shaStep]; rw [if_pos ht16]
                simp only [uvs, List.map_set, uv, Hi.out.1, Hi.out.2.1, Hi.out.2.2]
            clear hA hS4 hcc hcf hu34
          all_goals
            obtain ⟨W, hW, hWl, hWS, hWu⟩ := HA.out
            obtain ⟨R, hR⟩ : ∃ R, R = st.2 := ⟨_, rfl⟩
            have hRr := hWu.heap HRr.out HN1.out
            have hRl := HL.out.2
            rw [← hR] at hRr hRl
            have hN2 := HN2.out
            have hN3 := HN3.out
            have h3r := hWu.heap (HUr.out.heap HM3.out (by omega)) (by simp only [OneS]; omega)
            have h4r := hWu.heap (HUr.out.heap HM4.out (by omega)) (by simp only [OneS]; omega)
            obtain ⟨j0, e0⟩ : ∃ j, j = ix 0 t := ⟨_, rfl⟩
            have n0 : j0 < 8 := by rw [e0]; exact ix_lt _ _
            have p0 : (j0 : Int) < 8 := by omega
            have s0 : IntKind.i64.wrap (-(t : Int)) = -(t : Int) := IntWalk.i64_in _ (by omega)
            have q0 : bits .and .i64 (-(t : Int)) 7 = (j0 : Int) := by rw [e0]; exact ix_bits0 htl
            obtain ⟨j1, e1⟩ : ∃ j, j = ix 1 t := ⟨_, rfl⟩
            have n1 : j1 < 8 := by rw [e1]; exact ix_lt _ _
            have p1 : (j1 : Int) < 8 := by omega
            have s1 : IntKind.i64.wrap (1 - (t : Int)) = 1 - (t : Int) := IntWalk.i64_in _ (by omega)
            have q1 : bits .and .i64 (1 - (t : Int)) 7 = (j1 : Int) := by rw [e1]; exact ix_bits (k := 1) (by decide) htl
            obtain ⟨j2, e2⟩ : ∃ j, j = ix 2 t := ⟨_, rfl⟩
            have n2 : j2 < 8 := by rw [e2]; exact ix_lt _ _
            have p2 : (j2 : Int) < 8 := by omega
            have s2 : IntKind.i64.wrap (2 - (t : Int)) = 2 - (t : Int) := IntWalk.i64_in _ (by omega)
            have q2 : bits .and .i64 (2 - (t : Int)) 7 = (j2 : Int) := by rw [e2]; exact ix_bits (k := 2) (by decide) htl
            obtain ⟨j3, e3⟩ : ∃ j, j = ix 3 t := ⟨_, rfl⟩
            have n3 : j3 < 8 := by rw [e3]; exact ix_lt _ _
            have p3 : (j3 : Int) < 8 := by omega
            have s3 : IntKind.i64.wrap (3 - (t : Int)) = 3 - (t : Int) := IntWalk.i64_in _ (by omega)
            have q3 : bits .and .i64 (3 - (t : Int)) 7 = (j3 : Int) := by rw [e3]; exact ix_bits (k := 3) (by decide) htl
            obtain ⟨j4, e4⟩ : ∃ j, j = ix 4 t := ⟨_, rfl⟩
            have n4 : j4 < 8 := by rw [e4]; exact ix_lt _ _
            have p4 : (j4 : Int) < 8 := by omega
            have s4 : IntKind.i64.wrap (4 - (t : Int)) = 4 - (t : Int) := IntWalk.i64_in _ (by omega)
            have q4 : bits .and .i64 (4 - (t : Int)) 7 = (j4 : Int) := by rw [e4]; exact ix_bits (k := 4) (by decide) htl
            obtain ⟨j5, e5⟩ : ∃ j, j = ix 5 t := ⟨_, rfl⟩
            have n5 : j5 < 8 := by rw [e5]; exact ix_lt _ _
            have p5 : (j5 : Int) < 8 := by omega
            have s5 : IntKind.i64.wrap (5 - (t : Int)) = 5 - (t : Int) := IntWalk.i64_in _ (by omega)
            have q5 : bits .and .i64 (5 - (t : Int)) 7 = (j5 : Int) := by rw [e5]; exact ix_bits (k := 5) (by decide) htl
            obtain ⟨j6, e6⟩ : ∃ j, j = ix 6 t := ⟨_, rfl⟩
            have n6 : j6 < 8 := by rw [e6]; exact ix_lt _ _
            have p6 : (j6 : Int) < 8 := by omega
            have s6 : IntKind.i64.wrap (6 - (t : Int)) = 6 - (t : Int) := IntWalk.i64_in _ (by omega)
            have q6 : bits .and .i64 (6 - (t : Int)) 7 = (j6 : Int) := by rw [e6]; exact ix_bits (k := 6) (by decide) htl
            obtain ⟨j7, e7⟩ : ∃ j, j = ix 7 t := ⟨_, rfl⟩
            have n7 : j7 < 8 := by rw [e7]; exact ix_lt _ _
            have p7 : (j7 : Int) < 8 := by omega
            have s7 : IntKind.i64.wrap (7 - (t : Int)) = 7 - (t : Int) := IntWalk.i64_in _ (by omega)
            have q7 : bits .and .i64 (7 - (t : Int)) 7 = (j7 : Int) := by rw [e7]; exact ix_bits (k := 7) (by decide) htl
            have MK0 : ∀ w', Upd NoS wA w' → w'.cell? ⟨Rb, j0, none⟩ = some (.int .u32 ((at32 R j0).toNat : Int)) ∧ w'.cell? ⟨Rb, j1, none⟩ = some (.int .u32 ((at32 R j1).toNat : Int)) ∧ w'.cell? ⟨Rb, j2, none⟩ = some (.int .u32 ((at32 R j2).toNat : Int)) ∧ w'.cell? ⟨Rb, j4, none⟩ = some (.int .u32 ((at32 R j4).toNat : Int)) ∧ w'.cell? ⟨Rb, j5, none⟩ = some (.int .u32 ((at32 R j5).toNat : Int)) ∧ w'.cell? ⟨Rb, j6, none⟩ = some (.int .u32 ((at32 R j6).toNat : Int)) ∧ w'.cell? ⟨Rb, j7, none⟩ = some (.int .u32 ((at32 R j7).toNat : Int))
                ∧ w'.cell? ⟨S, t % 16, none⟩ = some (.int .u32 ((at32 W (t % 16)).toNat : Int))
                ∧ w'.cell? ⟨n + 1 + 1 + 1 + 1 + 1 + 1, 0, none⟩ = some (.int .i64 6) ∧ w'.cell? ⟨n + 1 + 1 + 1 + 1 + 1 + 1, 1, none⟩ = some (.int .i64 11) ∧ w'.cell? ⟨n + 1 + 1 + 1 + 1 + 1 + 1, 2, none⟩ = some (.int .i64 25) ∧ w'.cell? ⟨n + 1 + 1 + 1 + 1 + 1 + 1, 3, none⟩ = some (.func (.func 95) #[] #[]) := fun w' hu => by
              have h0 := hu.heap hRr id
              have h1 := hu.heap hWS id
              have h2 := hu.heap h4r id
              exact ⟨cell_words h0 _ (by omega), cell_words h0 _ (by omega), cell_words h0 _ (by omega), cell_words h0 _ (by omega), cell_words h0 _ (by omega), cell_words h0 _ (by omega), cell_words h0 _ (by omega), cell_words h1 _ (by omega), cell_at h2 0, cell_at h2 1, cell_at h2 2, cell_at h2 3⟩
            have MK2 := Lib.hid MK0
            have HW := Lib.hid hW
            have HWl := Lib.hid hWl
            have HWS := Lib.hid hWS
            have HWu := Lib.hid hWu
            have HR2 := Lib.hid hR
            have HRA := Lib.hid hRr
            have HRl := Lib.hid hRl
            have H3r := Lib.hid h3r
            have HE := Lib.hid (And.intro e0 (And.intro e1 (And.intro e2 (And.intro e3 (And.intro e4 (And.intro e5 (And.intro e6 e7)))))))
            clear MK0 hW hWl hWS hWu hR hRr hRl h3r h4r e0 e1 e2 e3 e4 e5 e6 e7 hN2 hN3
            refine wp_region_canon (fun w' => Upd NoS wA w') 35 1 [] [0, 1, 2, 3, 4, 5, 6, 7, 8, 9, 10, 11, 12, 13, 14, 15, 16, 17, 18, 19, 20, 21, 22, 23, 24, 25, 26, 27, 28, 29, 30, 31, 32, 33, 34] rfl (by kernel_rfl) (by decide) (by kernel_rfl) (by kernel_rfl) (by kernel_rfl) (by kernel_rfl) (by kernel_rfl) ((Upd.refl _ _).drew) ?_
            simp only [List.take_succ_cons, List.take_zero, List.drop_succ_cons, List.drop_zero, pick, List.getElem?_cons_succ, List.getElem?_cons_zero, Nat.reduceBEq, List.contains_cons, List.contains_nil, Bool.or_self, Bool.or_false, Bool.or_true, Bool.true_or, Bool.false_or]
            repeat (refine wpD_quiet ?_ (fun w' hS => ?_) ?_; rotate_left; (· obtain ⟨f0, f1, f2, f3, f4, f5, f6, f7, f8, f9, f10, f11⟩ := MK2.out w' hS; go_simp; (try with_reducible rfl)); (try simp only [Act.put, List.setIfInBounds_toArray, List.set_cons_succ, List.set_cons_zero]))
            refine wpD_nil ?_
            go_wp2
            refine NoPanic.normal ?_
            go_wp2
            refine wp_region_canon (fun w' => Upd NoS wA w') 23 1 [7] [0, 1, 2, 3, 4, 5, 6, 9, 10, 11, 12, 13, 14, 15, 17, 19, 20, 21, 7, 8, 16, 18, 22] rfl (by kernel_rfl) (by decide) (by kernel_rfl) (by kernel_rfl) (by kernel_rfl) (by kernel_rfl) (by kernel_rfl) ((Upd.refl _ _).drew.drew) ?_
            simp only [List.take_succ_cons, List.take_zero, List.drop_succ_cons, List.drop_zero, pick, List.getElem?_cons_succ, List.getElem?_cons_zero, Nat.reduceBEq, List.contains_cons, List.contains_nil, Bool.or_self, Bool.or_false, Bool.or_true, Bool.true_or, Bool.false_or]
            repeat (refine wpD_quiet ?_ (fun w' hS => ?_) ?_; rotate_left; (· obtain ⟨f0, f1, f2, f3, f4, f5, f6, f7, f8, f9, f10, f11⟩ := MK2.out w' hS; go_simp; (try with_reducible rfl)); (try simp only [Act.put, List.setIfInBounds_toArray, List.set_cons_succ, List.set_cons_zero]))
            refine wpD_loud (fun K hK => ?_)
            go_wp2_with fail
            refine (mixB1 _ _).mono ?_
            rintro e w5 ⟨rfl, hu5⟩
            go_wp2_with fail
            refine hK _ _ ((Upd.refl _ _).drew.drew.tr hu5) ?_
            repeat (refine wpD_quiet ?_ (fun w' hS => ?_) ?_; rotate_left; (· obtain ⟨f0, f1, f2, f3, f4, f5, f6, f7, f8, f9, f10, f11⟩ := MK2.out w' hS; go_simp; (try with_reducible rfl)); (try simp only [Act.put, List.setIfInBounds_toArray, List.set_cons_succ, List.set_cons_zero]))
            refine wpD_nil ?_
            go_wp2
            refine NoPanic.normal ?_
            simp only [u32_xor, u32_and, u32_add2]
            obtain ⟨sv, hsv⟩ : ∃ sv, sv = at32 R j7 + mixB 6 11 25 rotr (at32 R j4) + (at32 R j6 ^^^ (at32 R j4 &&& (at32 R j5 ^^^ at32 R j6))) + at32 shaK t + at32 W (t % 16) := ⟨_, rfl⟩
            rw [← hsv]
            have Hsv := Lib.hid hsv
            have hu5' : Upd NoS wA w5 := (Upd.refl _ _).drew.drew.tr hu5
            have hR5 := hu5'.heap HRA.out id
            have h35 := hu5'.heap H3r.out id
            have c3 := cell_words hR5 j3 (by rw [HRl.out]; exact n3)
            have g3 := free_at hR5 j3
            have HR5 := Lib.hid hR5
            have H35 := Lib.hid h35
            have HU5 := Lib.hid hu5'
            obtain ⟨v3, hv3⟩ : ∃ v3, v3 = at32 R j3 + sv := ⟨_, rfl⟩
            have r3 : ((at32 R j3).toNat + sv.toNat : Int) % 4294967296 = (v3.toNat : Int) := by rw [hv3]; exact u32_add _ _
            have hne : Rb ≠ n + 1 + 1 + 1 + 1 + 1 := HN2.out.2.2.1
            have d0 : ∀ v, (w5.setCell ⟨Rb, j3, none⟩ v).cell? ⟨n + 1 + 1 + 1 + 1 + 1, 0, none⟩ = some (.int .i64 2) := fun v => (cell_set_ne (by intro e; exact hne (by simpa using congrArg Addr.block e)) _).trans (cell_at h35 0)
            have d1 : ∀ v, (w5.setCell ⟨Rb, j3, none⟩ v).cell? ⟨n + 1 + 1 + 1 + 1 + 1, 1, none⟩ = some (.int .i64 13) := fun v => (cell_set_ne (by intro e; exact hne (by simpa using congrArg Addr.block e)) _).trans (cell_at h35 1)
            have d2 : ∀ v, (w5.setCell ⟨Rb, j3, none⟩ v).cell? ⟨n + 1 + 1 + 1 + 1 + 1, 2, none⟩ = some (.int .i64 22) := fun v => (cell_set_ne (by intro e; exact hne (by simpa using congrArg Addr.block e)) _).trans (cell_at h35 2)
            have d3 : ∀ v, (w5.setCell ⟨Rb, j3, none⟩ v).cell? ⟨n + 1 + 1 + 1 + 1 + 1, 3, none⟩ = some (.func (.func 95) #[] #[]) := fun v => (cell_set_ne (by intro e; exact hne (by simpa using congrArg Addr.block e)) _).trans (cell_at h35 3)
            have hR6 : (w5.setCell ⟨Rb, j3, none⟩ (.int .u32 (v3.toNat : Int))).heap[Rb]? = some (.cells (uvs (R.set j3 v3)).toArray 142 (0, 0)) := by
              rw [heap_set hR5, List.setIfInBounds_toArray]; simp only [uvs, List.map_set, uv]
            have HR6 := Lib.hid hR6
            have Hv3 := Lib.hid hv3
            clear hsv hu5 hu5' hR5 h35 hne hR6 hv3
            go_wp2_with (go_at_call 97; (refine (mixB0 _ _).mono ?_); rintro e w6 ⟨rfl, hu6⟩; have hR7 := hu6.heap HR6.out id; have c7 := cell_words hR7 j7 (by rw [List.length_set, HRl.out]; exact n7); have g7 := free_at hR7 j7; have HR7 := Lib.hid hR7; have HU6 := Lib.hid hu6; clear hu6 hR7)
            all_goals
              simp only [u32_xor, u32_and, u32_or, u32_add2, u32_add3]
              obtain ⟨v7, hv7⟩ : ∃ v7, v7 = sv + mixB 2 13 22 rotr (at32 R j0) + ((at32 R j0 &&& at32 R j2) ||| (at32 R j1 &&& (at32 R j0 ||| at32 R j2))) := ⟨_, rfl⟩
              rw [← hv7]
              have hW5a : Upd (OneS Rb) wA (w5.setCell ⟨Rb, j3, none⟩ (.int .u32 (v3.toNat : Int))) := Upd.setCell (HU5.out.mono (fun _ _ h => h.elim)) _ _ (fun _ => rfl)
              have hW5 : Upd (OneS Rb) wA (w6.setCell ⟨Rb, j7, none⟩ (.int .u32 (v7.toNat : Int))) := Upd.setCell (hW5a.trNo HU6.out) _ _ (fun _ => rfl)
              obtain ⟨e0, e1, e2, e3, e4, e5, e6, e7⟩ := HE.out
              have eS : shaRun b h (t + 1) = (W, (R.set j3 v3).set j7 v7) := by
                show shaStep t (shaRun b h t) = _
                rw [← Hst.out]
                refine Prod.ext HW.out.symm ?_
                rw [HR2.out, e3, e7]
                refine shaStep_snd HW.out ?_ (by rw [Hv3.out, HR2.out, e3]) (by rw [hv7, HR2.out, e0, e1, e2])
                rw [Hsv.out, HR2.out, e4, e5, e6, e7]
              refine ⟨⟨t + 1, by omega, by go_num, ?_, ?_, ?_⟩, by simp [intOf]; omega⟩
              · rw [eS]; exact hW5.heap HWS.out (fun e => HN1.out e.symm)
              · rw [eS, heap_set HR7.out, List.setIfInBounds_toArray]; simp only [uvs, List.map_set, uv]
              · exact (HUr.out.tr (HWu.out.mono (fun _ _ h => .inl h))).tr (hW5.mono (fun _ _ h => .inr h))
        · obtain rfl : t = 64 := by omega
          rename World => W3
          have HRr := Lib.hid hRr
          have HUr := Lib.hid hur
          have HHr := Lib.hid (hur.heap HHb.out (by have := HN2.out; have := HN3.out; omega))
          have HZr := Lib.hid (hur.heap HZb.out (by have := HN2.out; have := HN3.out; omega))
          obtain ⟨R, hR⟩ : ∃ R, R = (shaRun b h 64).2 := ⟨_, rfl⟩
          have hRl := (shaRun_len b h hh 64).2
          rw [← hR] at HRr hRl
          have HR2 := Lib.hid hR
          have HRl := Lib.hid hRl
          clear hSr hRr hur hR hRl
          go_wp2
          go_loopw [180] (fun kv w3 => ∃ i : Nat, i ≤ 8 ∧ kv = .int .i64 i ∧ w3.heap[n]? = some (.cells (uvs (shaSum h R i)).toArray 142 (0, 0)) ∧ Upd (OneS n) W3 w3) (fun kv _ => 8 - (intOf kv).toNat)
          case atStart => exact ⟨0, by omega, rfl, by simpa [shaSum] using HHr.out, Upd.refl _ _⟩
          case round =>
            obtain ⟨i, hi, rfl, hH3, hu3⟩ := hrel
            by_cases hlt : i < 8
            · have hR3 := hu3.heap HRr.out (by have := HN2.out; simp only [OneS]; omega)
              have MK : Hid (∀ w', Upd NoS wr w' → w'.cell? ⟨n, i, none⟩ = some (.int .u32 ((at32 h i).toNat : Int)) ∧ w'.frozen? ⟨n, i, none⟩ = false ∧ w'.cell? ⟨Rb, i, none⟩ = some (.int .u32 ((at32 R i).toNat : Int))) := Lib.hid fun w' hu => by
                have h0 := hu.heap hH3 id
                have h1 := hu.heap hR3 id
                refine ⟨?_, free_at h0 _, cell_words h1 i (by rw [HRl.out]; omega)⟩
                rw [cell_words h0 i (by rw [length_shaSum (by omega)]; omega), at_shaSum (by omega)]
              have HH3 := Lib.hid hH3
              have HU3 := Lib.hid hu3
              have r8 := u32_add (at32 h i) (at32 R i)
              have hi8 : (i : Int) < 8 := by omega
              clear hH3 hu3 hR3
              go_wp2
              refine wp_region_canon (fun w' => Upd NoS wr w') 7 2 [] [0, 1, 2, 3, 4, 5, 6] rfl (by kernel_rfl) (by decide) (by kernel_rfl) (by kernel_rfl) (by kernel_rfl) (by kernel_rfl) (by kernel_rfl) ((Upd.refl _ _).drew) ?_
              simp only [List.take_succ_cons, List.take_zero, List.drop_succ_cons, List.drop_zero, pick, List.getElem?_cons_succ, List.getElem?_cons_zero, Nat.reduceBEq, List.contains_cons, List.contains_nil, Bool.or_self, Bool.or_false, Bool.or_true, Bool.true_or, Bool.false_or]
              repeat (refine wpD_quiet ?_ (fun w' hS => ?_) ?_; rotate_left; (· obtain ⟨f0, f1, f2⟩ := MK.out w' hS; go_simp; (try with_reducible rfl)); (try simp only [Act.put, List.setIfInBounds_toArray, List.set_cons_succ, List.set_cons_zero]))
              refine wpD_nil ?_
              obtain ⟨f0, f1, f2⟩ := MK.out _ (Upd.refl _ _).drew
              go_wp2
              refine NoPanic.normal ?_
              go_wp2
              clear f0 f1 f2 MK
              rw [r8]
              clear r8
              go_wp2
              refine ⟨⟨i + 1, by omega, by go_num, ?_, (HU3.out.setCell ⟨n, i, none⟩ _ (fun _ => rfl)).drew⟩, by simp [intOf]; omega⟩
              have hh3 := heap_set HH3.out i (uv (at32 h i + at32 R i))
              rw [List.setIfInBounds_toArray] at hh3
              simp only [uvs] at hh3
              rw [← List.map_set, shaSum_set (by omega)] at hh3
              exact hh3
            · obtain rfl : i = 8 := by omega
              have hZ3 := hu3.heap HZr.out (by simp only [OneS]; omega)
              have e8 : shaSum h R 8 = shaOut b h := by
                rw [HR2.out]; simp only [shaSum, shaOut]; rw [List.drop_of_length_le (by omega), List.append_nil]
              rw [e8] at hH3
              have ho : (shaOut b h).length = 8 := by simp [shaOut]
              have HZ3 := Lib.hid hZ3
              have HH3 := Lib.hid hH3
              have HU3 := Lib.hid hu3
              clear hH3 hu3 hZ3
              go_wp2_with (first
                | (refine wpList_load0 HH3.out Try.underlying142 rfl size8 (by simp [ho]) rfl (x := .tmp 2) rfl rfl ?_)
                | (refine wpList_store0 HZ3.out size8 (by simp [ho]) (by simpa using HL0.out) (uvs_one _) rfl (x := .tmp 4) (y := .tmp 192) rfl rfl rfl ?_; intro w1 hg1 hu1 hs1))
              refine bodyPost_ret (results_cell_row rfl _ _ (n + 1 + 1) _ _ _ _ rfl hg1 Try.underlying142 rfl (by simpa [ho] using size8)) rfl ⟨rfl, ?_⟩
              have hn2 := HN2.out
              have hn3 := HN3.out
              have hwn := HWN.out
              refine HU2.out.trans ((HUr.out.mono (T := fun k => k = S ∨ k = Rb ∨ k = n ∨ k = n + 1 + 1) (fun k _ h => by rcases h with h | h <;> simp [h])).tr (((HU3.out.mono (fun k _ h => ?_)).tr (hu1.mono (fun k _ h => ?_))))) (fun k hk h => ?_)
              · exact .inr (.inr (.inl h))
              · exact .inr (.inr (.inr h))
              · have := HSn.out
                have hn4 := HN4.out
                show False
                omega
end Go.Proofs.Ytomgdfoahfhijaa
