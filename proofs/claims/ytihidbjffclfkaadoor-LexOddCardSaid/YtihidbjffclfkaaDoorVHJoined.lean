/- Part of the proof: what it uses of HJoined. -/
import Derived.Test.YtihidbjffclfkaaDoorVHEq3
import Derived.Test.YtihidbjffclfkaaDoorVHJoin
import Derived.Test.YtihidbjffclfkaaDoorVHMade
import Derived.Test.YtihidbjffclfkaaDoorVHWorks
namespace Go.Proofs.YtihidbjffclfkaaDoor.PLex
open Go.RowKit Go.Maps Go.Proofs.YtihidbjffclfkaaDoorW.PrintWords Go.Proofs.YtihidbjffclfkaaDoorW.PrintLast Go.Proofs.YtihidbjffclfkaaDoorW.PrintMore Go.Proofs.YtihidbjffclfkaaDoor.Lx
set_option linter.unusedVariables false
set_option linter.unusedSimpArgs false
theorem good_len {x : S28} {src : List UInt8} (h : Good x src) : src.length ≤ 162 := by
  have h1 := h.joined
  have h2 := h.small
  unfold wordB at h1
  split at h1
  · injection h1 with h1
    have e : quoteL x.f2.data.toList = src := congrArg (fun b : ByteArray => b.data.toList) h1
    have hq := quoteL_len x.f2.data.toList
    rw [← Lib.size_eq, e] at hq
    omega
  · split at h1
    · cases h1
    · injection h1 with h1
      have e : x.f2.size = src.length := by rw [h1]; rfl
      omega
def text (ws : List S28) : List UInt8 := Lib.join ((joinL ws).map (·.data.toList)) [32]
def tail_ (ws : List S28) : List UInt8 := Lib.joinTail [32] ((joinL ws).map (·.data.toList))
theorem joinL_cons {x : S28} {src : List UInt8} (h : Good x src) (ws : List S28) : joinL (x :: ws) = ⟨src.toArray⟩ :: joinL ws := by
  unfold joinL
  rw [List.filterMap_cons, h.joined]
theorem text_cons {x : S28} {src : List UInt8} (h : Good x src) (ws : List S28) : text (x :: ws) = src ++ tail_ ws := by
  unfold text tail_
  rw [joinL_cons h, List.map_cons, Lib.join_cons]
theorem tail_nil : tail_ [] = [] := rfl
theorem tail_cons {x : S28} {src : List UInt8} (h : Good x src) (ws : List S28) : tail_ (x :: ws) = 32 :: (src ++ tail_ ws) := by
  unfold tail_
  rw [joinL_cons h, List.map_cons]
  simp [Lib.joinTail]
theorem pad_space : Pad [32] := pad_blank 32 (by decide) pad_nil
theorem stop_tail (ws : List S28) (h : Goods ws) (z : List UInt8) (hz : Stop z) : Stop (tail_ ws ++ z) := by
  cases ws with
  | nil => exact hz
  | cons x ws =>
    obtain ⟨_, src, hg⟩ := h x (List.mem_cons_self ..)
    rw [tail_cons hg]
    exact stop_blank 32 (by decide) _
theorem row_tail (z : List UInt8) (hz : Stop z) : ∀ ws : List S28, Goods ws → Row ws (tail_ ws ++ z) z
  | [], _ => Row.nil
  | x :: ws, h => by
    obtain ⟨_, src, hg⟩ := h x (List.mem_cons_self ..)
    have hws : Goods ws := fun y hy => h y (List.mem_cons_of_mem _ hy)
    rw [tail_cons hg]
    have := Row.cons pad_space hg (stop_tail ws hws z hz) (row_tail z hz ws hws)
    simpa using this
theorem row_text (z : List UInt8) (hz : Stop z) (ws : List S28) (h : Goods ws) {p : List UInt8} (hp : Pad p) (hne : ws ≠ []) : Row ws (p ++ (text ws ++ z)) z := by
  cases ws with
  | nil => exact absurd rfl hne
  | cons x ws =>
    obtain ⟨_, src, hg⟩ := h x (List.mem_cons_self ..)
    have hws : Goods ws := fun y hy => h y (List.mem_cons_of_mem _ hy)
    rw [text_cons hg, List.append_assoc]
    exact Row.cons hp hg (stop_tail ws hws z hz) (row_tail z hz ws hws)
theorem tail_len : ∀ ws : List S28, Goods ws → (tail_ ws).length ≤ 163 * ws.length
  | [], _ => Nat.le_refl _
  | x :: ws, h => by
    obtain ⟨_, src, hg⟩ := h x (List.mem_cons_self ..)
    have := tail_len ws (fun y hy => h y (List.mem_cons_of_mem _ hy))
    have := good_len hg
    rw [tail_cons hg]
    simp only [List.length_cons, List.length_append]
    omega
theorem text_len (ws : List S28) (h : Goods ws) : (text ws).length ≤ 163 * ws.length := by
  cases ws with
  | nil => exact Nat.le_refl _
  | cons x ws =>
    obtain ⟨_, src, hg⟩ := h x (List.mem_cons_self ..)
    have := tail_len ws (fun y hy => h y (List.mem_cons_of_mem _ hy))
    have := good_len hg
    rw [text_cons hg]
    simp only [List.length_cons, List.length_append]
    omega
theorem join_text (ws : List S28) (h : Goods ws) (hl : ws.length ≤ 60) : lex_Join.f ws = some ⟨(text ws).toArray⟩ :=
  join_f ws (fun x hx => by obtain ⟨_, src, hg⟩ := h x hx; exact hg.small) (by omega)
end Go.Proofs.YtihidbjffclfkaaDoor.PLex
