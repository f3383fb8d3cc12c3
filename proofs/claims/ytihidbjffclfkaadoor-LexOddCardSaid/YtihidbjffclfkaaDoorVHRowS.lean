/- Part of the proof: what it uses of HRowS. -/
import Derived.ChangeArms
import Derived.ChangeSlices
import Derived.Deep.Strs
import Derived.Lib.SmallJoins
import Derived.Test.YtihidbjffclfkaaDoorVHSpec
import Derived.Test.YtihidbjffclfkaaDoorVPLex0
namespace Go.Proofs.YtihidbjffclfkaaDoor.PLex
open Go.RowKit Go.Proofs.YtihidbjffclfkaaDoorW.PrintWords Go.Proofs.YtihidbjffclfkaaDoorW.PrintLast Go.Proofs.YtihidbjffclfkaaDoorW.PrintMore Go.Proofs.YtihidbjffclfkaaDoor.Lx
set_option linter.unusedVariables false
theorem three_cells {cs : List Value} {a b c : Value} (hl : cs.length = 3) (h0 : (cs.drop 0).take 1 = [a]) (h1 : (cs.drop 1).take 1 = [b]) (h2 : (cs.drop 2).take 1 = [c]) : cs = [a, b, c] := by
  match cs, hl with
  | [x, y, z], _ => simp at h0 h1 h2; simp [h0, h1, h2]
theorem bytes_of_trod {H : Type} {enc : TypeId × Value → H} {W : World} {base : Nat} {sp : Nat → Bool} {held : Bool} {fuel : Nat} {cs : List Value} {x : DataW H × List MemPlace} (h : DataW.trod enc Tryd.prog W base sp held fuel 52 cs = some x) :
    ∃ (A : Option Addr) (cap : Nat) (b : List UInt8), cs = [.slice A b.length cap] ∧ b.length ≤ cap ∧ b.length ≤ maxLen ∧ Kd.C (Kd.int .u8) W A b.length (bl b) := by
  rcases DataW.trod_slice Tryd.underlying52 h with ⟨rfl, rfl⟩ | ⟨a, len, cap, elems, rest, n, _, rfl, rfl, hb, hl, hm, hlen, hel, _, _⟩
  · exact ⟨none, 0, [], rfl, Nat.le_refl _, by decide, rfl, by simp, fun h => absurd h (by simp)⟩
  have c1 : Tryd.prog.cellsOf 5 = 1 := by kernel_rfl
  have each : ∀ i, i < len → ∃ y : UInt8, W.cell? (a.add i) = some (.int .u8 (y.toNat : Int)) := by
    intro i hi
    have h1 := hel i hi
    rw [c1, List.getElem?_eq_getElem (by omega), Option.bind_eq_some_iff, Nat.mul_one] at h1
    obtain ⟨ds, hds, hy⟩ := h1
    obtain ⟨n0, q0, _, hwf⟩ := DataW.trod_int Tryd.underlying5 hy
    subst q0
    have h3 := (World.cells?_some hds).2.2 0 (by simp)
    have hwf2 : (decide (IntKind.u8.min ≤ n0) && decide (n0 ≤ IntKind.u8.max)) = true := hwf
    rw [Bool.and_eq_true, decide_eq_true_eq, decide_eq_true_eq] at hwf2
    have hr : 0 ≤ n0 ∧ n0 ≤ 255 := hwf2
    refine ⟨UInt8.ofNat n0.toNat, ?_⟩
    have hz : ((UInt8.ofNat n0.toNat).toNat : Int) = n0 := by
      rw [UInt8.toNat_ofNat']
      omega
    rw [hz]
    rw [Addr.add_add] at h3
    simpa using h3
  obtain ⟨f, hf⟩ : ∃ f : Nat → UInt8, ∀ i, i < len → W.cell? (a.add i) = some (.int .u8 ((f i).toNat : Int)) := by
    refine ⟨fun i => if h : i < len then (each i h).choose else 0, fun i hi => ?_⟩
    simp only [dif_pos hi]
    exact (each i hi).choose_spec
  have hlb : (List.map f (List.range len)).length = len := by simp
  refine ⟨some a, cap, (List.range len).map f, by rw [hlb], by rw [hlb]; exact hl, by rw [hlb]; omega, ?_⟩
  rw [hlb]
  refine ⟨by simp [bl], by simp only [maxLen] at hm; omega, fun _ => ⟨a, rfl, fun j p hp => ?_⟩⟩
  unfold bl at hp
  rw [List.map_map, List.getElem?_map] at hp
  obtain ⟨i, hi, rfl⟩ := Option.map_eq_some_iff.1 hp
  obtain ⟨hlt, rfl⟩ := List.getElem?_eq_some_iff.1 hi
  rw [List.length_range] at hlt
  rw [List.getElem_range]
  refine ⟨_, rfl, rfl, fun k u hu => ?_⟩
  have hk : k = 0 := by
    have := (List.getElem?_eq_some_iff.1 hu).1
    simp at this
    exact this
  subst hk
  simp only [List.getElem?_cons_zero, Option.some.injEq] at hu
  subst hu
  have h1 : (Kd.int IntKind.u8).sz = 1 := rfl
  rw [h1, Nat.mul_one, Nat.add_zero]
  exact hf j hlt
set_option maxRecDepth 100000 in
theorem seeds_of_trod {H : Type} {enc : TypeId × Value → H} {W : World} {base : Nat} {sp : Nat → Bool} {held : Bool} {fuel : Nat} {cs : List Value} {x : DataW H × List MemPlace} (h : DataW.trod enc Tryd.prog W base sp held fuel 34 cs = some x) :
    ∃ (A : Option Addr) (len cap : Nat) (xs : List S56), cs = [.slice A len cap] ∧ len ≤ cap ∧ cap ≤ maxLen ∧ xs.length = len ∧ Kd.C k56 W A len xs ∧ ∀ y ∈ xs, ∃ b, y.f2 = bl b := by
  rcases DataW.trod_slice Tryd.underlying34 h with ⟨rfl, rfl⟩ | ⟨a, len, cap, elems, rest, n, _, rfl, rfl, hb, hl, hm, hlen, hel, _, _⟩
  · exact ⟨none, 0, 0, [], rfl, Nat.le_refl _, by decide, rfl, ⟨rfl, by omega, fun h => absurd h (by omega)⟩, by simp⟩
  have c4 : Tryd.prog.cellsOf 56 = 3 := by kernel_rfl
  have ci : Tryd.prog.cellsOf 3 = 1 := by kernel_rfl
  have cstr : Tryd.prog.cellsOf 52 = 1 := by kernel_rfl
  have each : ∀ i, i < len → ∃ y : S56, ∃ (A2 : Option Addr) (c2 : Nat), (∃ b, y.f2 = bl b) ∧ y.f2.length ≤ c2 ∧ (Kd.int .u8).C W A2 y.f2.length y.f2 ∧ ∀ j u, [Value.int .i64 y.f0, .int .i64 y.f1, .slice A2 y.f2.length c2][j]? = some u → W.cell? (a.add (i * 3 + j)) = some u := by
    intro i hi
    have h1 := hel i hi
    rw [c4, List.getElem?_eq_getElem (by omega), Option.bind_eq_some_iff] at h1
    obtain ⟨ds, hds, hy⟩ := h1
    obtain ⟨y0, y1, y2, m, _, hl4, e0, e1, e2⟩ := Go.Deep.trod_struct3 Tryd.underlying56 hy
    rw [c4] at hl4
    obtain ⟨n0, q0, _, _⟩ := DataW.trod_int Tryd.underlying3 e0
    obtain ⟨n1, q1, _, _⟩ := DataW.trod_int Tryd.underlying3 e1
    obtain ⟨A2, c2, b, q2, g1, g2, g3⟩ := bytes_of_trod e2
    rw [ci] at q0 q1
    rw [cstr] at q2
    have hcs := three_cells hl4 q0 q1 q2
    have hbl : (bl b).length = b.length := by simp [bl]
    refine ⟨⟨n0, n1, bl b⟩, A2, c2, ⟨b, rfl⟩, by rw [hbl]; exact g1, by rw [hbl]; exact g3, fun j u hu => ?_⟩
    rw [hbl] at hu
    have h3 := (World.cells?_some hds).2.2 j (by have := (List.getElem?_eq_some_iff.1 hu).1; simpa using this)
    rw [hcs, hu] at h3
    rw [← h3]
    congr 1
    exact (Addr.add_add _ _ _).symm
  obtain ⟨f, hf⟩ : ∃ f : Nat → S56, ∀ i, i < len → ∃ (A2 : Option Addr) (c2 : Nat), (∃ b, (f i).f2 = bl b) ∧ (f i).f2.length ≤ c2 ∧ (Kd.int .u8).C W A2 (f i).f2.length (f i).f2 ∧ ∀ j u, [Value.int .i64 (f i).f0, .int .i64 (f i).f1, .slice A2 (f i).f2.length c2][j]? = some u → W.cell? (a.add (i * 3 + j)) = some u := by
    refine ⟨fun i => if h : i < len then (each i h).choose else z56, fun i hi => ?_⟩
    simp only [dif_pos hi]
    exact (each i hi).choose_spec
  refine ⟨some a, len, cap, (List.range len).map f, rfl, hl, hm, by simp, ⟨by simp, by simp only [maxLen] at hm; omega, fun _ => ⟨a, rfl, fun j p hp => ?_⟩⟩, ?_⟩
  · rw [List.getElem?_map] at hp
    obtain ⟨i, hi, rfl⟩ := Option.map_eq_some_iff.1 hp
    obtain ⟨hlt, rfl⟩ := List.getElem?_eq_some_iff.1 hi
    rw [List.length_range] at hlt
    rw [List.getElem_range]
    obtain ⟨A2, c2, _, g1, g2, g3⟩ := hf j hlt
    exact ⟨_, rfl, k56_mk W (f j) g1 g2, g3⟩
  · intro y hy
    obtain ⟨i, hi, rfl⟩ := List.mem_map.1 hy
    obtain ⟨_, _, hb, _⟩ := hf i (List.mem_range.1 hi)
    exact hb
end Go.Proofs.YtihidbjffclfkaaDoor.PLex
