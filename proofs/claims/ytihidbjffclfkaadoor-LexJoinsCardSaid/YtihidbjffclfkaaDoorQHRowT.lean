/- Part of the proof: what it uses of HRowT. -/
import Derived.ChangeArms
import Derived.ChangeSlices
import Derived.Lib.SmallJoins
import Derived.Test.YtihidbjffclfkaaDoorQPLex0
namespace Go.Proofs.YtihidbjffclfkaaDoor.PLex
open Go.RowKit Go.Proofs.YtihidbjffclfkaaDoorW.PrintWords Go.Proofs.YtihidbjffclfkaaDoorW.PrintLast Go.Proofs.YtihidbjffclfkaaDoorW.PrintMore
set_option linter.unusedVariables false
theorem four_cells {cs : List Value} {a b c d : Value} (hl : cs.length = 4) (h0 : (cs.drop 0).take 1 = [a]) (h1 : (cs.drop 1).take 1 = [b]) (h2 : (cs.drop 2).take 1 = [c]) (h3 : (cs.drop 3).take 1 = [d]) : cs = [a, b, c, d] := by
  match cs, hl with
  | [x, y, z, u], _ => simp at h0 h1 h2 h3; simp [h0, h1, h2, h3]
set_option maxRecDepth 100000 in
theorem words_of_trod {H : Type} {enc : TypeId × Value → H} {W : World} {base : Nat} {sp : Nat → Bool} {held : Bool} {fuel : Nat} {cs : List Value} {x : DataW H × List MemPlace} (h : DataW.trod enc Tryd.prog W base sp held fuel 22 cs = some x) :
    ∃ (A : Option Addr) (len cap : Nat) (xs : List S28), cs = [.slice A len cap] ∧ len ≤ cap ∧ cap ≤ maxLen ∧ xs.length = len ∧ Kd.C k28 W A len xs ∧ ∀ y ∈ xs, y.f2.size ≤ maxLen := by
  rcases DataW.trod_slice Tryd.underlying22 h with ⟨rfl, rfl⟩ | ⟨a, len, cap, elems, rest, n, _, rfl, rfl, hb, hl, hm, hlen, hel, _, _⟩
  · exact ⟨none, 0, 0, [], rfl, Nat.le_refl _, by decide, rfl, ⟨rfl, by omega, fun h => absurd h (by omega)⟩, by simp⟩
  have c4 : Tryd.prog.cellsOf 28 = 4 := by kernel_rfl
  have ci : Tryd.prog.cellsOf 3 = 1 := by kernel_rfl
  have cstr : Tryd.prog.cellsOf 9 = 1 := by kernel_rfl
  have each : ∀ i, i < len → ∃ y : S28, y.f2.size ≤ maxLen ∧ ∀ j u, [Value.int .i64 y.f0, .int .i64 y.f1, .string y.f2, .int .i64 y.f3][j]? = some u → W.cell? (a.add (i * 4 + j)) = some u := by
    intro i hi
    have h1 := hel i hi
    rw [c4, List.getElem?_eq_getElem (by omega), Option.bind_eq_some_iff] at h1
    obtain ⟨ds, hds, hy⟩ := h1
    obtain ⟨y0, y1, y2, y3, m, _, hl4, e0, e1, e2, e3⟩   := Go.Joins.trod_struct4 Tryd.underlying28 hy
    rw [c4] at hl4
    obtain ⟨n0, q0, _, _⟩ := DataW.trod_int Tryd.underlying3 e0
    obtain ⟨n1, q1, _, _⟩ := DataW.trod_int Tryd.underlying3 e1
    obtain ⟨s2, q2, _, hs2⟩ := DataW.trod_string Tryd.underlying9 e2
    obtain ⟨n3, q3, _, _⟩ := DataW.trod_int Tryd.underlying3 e3
    rw [ci] at q0 q1 q3
    rw [cstr] at q2
    have hcs := four_cells hl4 q0 q1 q2 q3
    refine ⟨⟨n0, n1, s2, n3⟩, hs2, fun j u hu => ?_⟩
    have h3 := (World.cells?_some hds).2.2 j (by have := (List.getElem?_eq_some_iff.1 hu).1; simpa using this)
    rw [hcs, hu] at h3
    rw [← h3]
    congr 1
    exact (Addr.add_add _ _ _).symm
  obtain ⟨f, hf⟩ : ∃ f : Nat → S28, ∀ i, i < len → (f i).f2.size ≤ maxLen ∧ ∀ j u, [Value.int .i64 (f i).f0, .int .i64 (f i).f1, .string (f i).f2, .int .i64 (f i).f3][j]? = some u → W.cell? (a.add (i * 4 + j)) = some u := by
    refine ⟨fun i => if h : i < len then (each i h).choose else z28, fun i hi => ?_⟩
    simp only [dif_pos hi]
    exact (each i hi).choose_spec
  refine ⟨some a, len, cap, (List.range len).map f, rfl, hl, hm, by simp, ⟨by simp, by simp only [maxLen] at hm; omega, fun _ => ⟨a, rfl, fun j p hp => ?_⟩⟩, ?_⟩
  · rw [List.getElem?_map] at hp
    obtain ⟨i, hi, rfl⟩ := Option.map_eq_some_iff.1 hp
    obtain ⟨hlt, rfl⟩ := List.getElem?_eq_some_iff.1 hi
    rw [List.length_range] at hlt
    rw [List.getElem_range]
    exact ⟨_, rfl, k28_mk W (f j), (hf j hlt).2⟩
  · intro y hy
    obtain ⟨i, hi, rfl⟩ := List.mem_map.1 hy
    exact (hf i (List.mem_range.1 hi)).1
end Go.Proofs.YtihidbjffclfkaaDoor.PLex
