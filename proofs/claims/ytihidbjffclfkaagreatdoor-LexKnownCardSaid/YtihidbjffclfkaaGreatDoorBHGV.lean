/- Part of the proof: what it uses of HGV. -/
import Derived.Test.YtihidbjffclfkaaGreatDoorBW
import Derived.Test.YtihidbjffclfkaaGreatDoorProg
namespace Go.Proofs.YtihidbjffclfkaaGreatDoor.PLex
open Go.RowKit Go.Proofs.YtihidbjffclfkaaGreatDoorW.PrintWords
structure GV (w : World) : Prop where
  maxLen : ∃ m, w.cell? ⟨0, 0, none⟩ = some (.int .i64 m)
  syn : ∃ ev, w.cell? ⟨2, 0, none⟩ = some ev ∧ (ev = .nilIface ∨ ∃ te pe, ev = .iface te pe)
  rng : ∃ ev, w.cell? ⟨3, 0, none⟩ = some ev ∧ (ev = .nilIface ∨ ∃ te pe, ev = .iface te pe)
theorem GV.below {w w' : World} (h : GV w) (hb : Below w.heap.size w w') : GV w' := by
  obtain ⟨m, hm⟩ := h.maxLen
  obtain ⟨e1, h1, k1⟩ := h.syn
  obtain ⟨e2, h2, k2⟩ := h.rng
  exact ⟨⟨m, pw_cell_below hb hm⟩, ⟨e1, pw_cell_below hb h1, k1⟩, ⟨e2, pw_cell_below hb h2, k2⟩⟩
end Go.Proofs.YtihidbjffclfkaaGreatDoor.PLex
