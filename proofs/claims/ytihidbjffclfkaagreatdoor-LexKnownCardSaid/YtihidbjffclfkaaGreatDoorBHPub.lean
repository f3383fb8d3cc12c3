/- Part of the proof: what it uses of HPub. -/
import Derived.Test.YtihidbjffclfkaaGreatDoorBHGV
import Derived.Test.YtihidbjffclfkaaGreatDoorBHParse
import Derived.Test.YtihidbjffclfkaaGreatDoorBHShelf
import Derived.Test.YtihidbjffclfkaaGreatDoorBPLex0
namespace Go.Proofs.YtihidbjffclfkaaGreatDoor.PLex
open Go.RowKit Go.Proofs.YtihidbjffclfkaaGreatDoorW.PrintWords Go.Proofs.YtihidbjffclfkaaGreatDoor.Lx
set_option linter.unusedVariables false
set_option linter.unusedSimpArgs false
set_option maxRecDepth 100000 in
theorem parseUint_empty (b k : Int) (w : World) :
    Calls Tryz.prog 53 #[.string ⟨#[]⟩, .int .i64 b, .int .i64 k] w fun e w' => e = .returned (puTuple 0 .synt) ∧ w' = w := by
  go_enter Tryz.func53, Tryz.ntmps53
  go_wp2
  go_ret2
  exact ⟨rfl, rfl⟩
set_option maxRecDepth 100000 in
theorem pub_ok (t : ByteArray) (b k : Int) (m v : Nat) (hin : ∀ w, Calls Tryz.prog 53 #[.string t, .int .i64 b, .int .i64 k] w fun e w' => e = .returned (puTuple m (.ok v)) ∧ Below w.heap.size w w') (w : World) :
    Calls Tryz.prog 27 #[.string t, .int .i64 b, .int .i64 k] w fun e w' => e = .returned (.tuple #[.int .u64 v, .nilIface]) ∧ Below w.heap.size w w' := by
  have HIN := Lib.hid hin
  clear hin
  go_enter Tryz.func27, Tryz.ntmps27
  go_wp2_with (go_at_call 53; refine (HIN.out _).mono ?_; rintro e w1 ⟨rfl, hb⟩; simp only [puTuple])
  go_ret2
  exact ⟨rfl, hb⟩
def NumErr (n : Nat) (e : Ending) : Prop := ∃ N, e = .returned (.tuple #[.int .u64 n, .iface 95 (.pointer (some ⟨N, 0, none⟩))])
set_option maxRecDepth 100000 in
theorem pub_syntax (t : ByteArray) (b k : Int) (m : Nat) (hin : ∀ w, Calls Tryz.prog 53 #[.string t, .int .i64 b, .int .i64 k] w fun e w' => e = .returned (puTuple m .synt) ∧ Below w.heap.size w w') (hlim : t.size ≤ 281474976710656) (w : World) (hg : GV w) :
    Calls Tryz.prog 27 #[.string t, .int .i64 b, .int .i64 k] w fun e w' => NumErr 0 e ∧ Below w.heap.size w w' := by
  have HIN := Lib.hid hin
  have HG := Aside0.mk hg
  clear hin hg
  go_enter Tryz.func27, Tryz.ntmps27
  go_wp2_with (first | (go_at_call 53; refine (HIN.out _).mono ?_; rintro e w1 ⟨rfl, hb⟩; simp only [puTuple]; obtain ⟨ev, hv, hev⟩ := (GV.below HG.out hb).syn; have HB := Aside0.mk hb; clear hb; have HV := Aside0.mk (And.intro hv hev); clear hv hev) | (go_at_call 54; refine (Tryz.strconv_toError_syntax _ t b k ev _ hlim HV.out.1 HV.out.2).mono ?_; rintro e w2 ⟨M, rfl, hN, hh, hb2⟩; have HB2 := Aside0.mk (below_then HB.out HB.out.size hb2); clear hN hh hb2))
  go_ret2
  exact ⟨⟨M, rfl⟩, HB2.out⟩
set_option maxRecDepth 100000 in
theorem pub_range (t : ByteArray) (b k : Int) (m : Nat) (hin : ∀ w, Calls Tryz.prog 53 #[.string t, .int .i64 b, .int .i64 k] w fun e w' => e = .returned (puTuple m .range) ∧ Below w.heap.size w w') (hlim : t.size ≤ 281474976710656) (w : World) (hg : GV w) :
    Calls Tryz.prog 27 #[.string t, .int .i64 b, .int .i64 k] w fun e w' => NumErr m e ∧ Below w.heap.size w w' := by
  have HIN := Lib.hid hin
  have HG := Aside0.mk hg
  clear hin hg
  go_enter Tryz.func27, Tryz.ntmps27
  go_wp2_with (first | (go_at_call 53; refine (HIN.out _).mono ?_; rintro e w1 ⟨rfl, hb⟩; simp only [puTuple]; obtain ⟨ev, hv, hev⟩ := (GV.below HG.out hb).rng; have HB := Aside0.mk hb; clear hb; have HV := Aside0.mk (And.intro hv hev); clear hv hev) | (go_at_call 54; refine (Tryz.strconv_toError_range _ t b k ev _ hlim HV.out.1 HV.out.2).mono ?_; rintro e w2 ⟨M, rfl, hN, hh, hb2⟩; have HB2 := Aside0.mk (below_then HB.out HB.out.size hb2); clear hN hh hb2))
  go_ret2
  exact ⟨⟨M, rfl⟩, HB2.out⟩
end Go.Proofs.YtihidbjffclfkaaGreatDoor.PLex
