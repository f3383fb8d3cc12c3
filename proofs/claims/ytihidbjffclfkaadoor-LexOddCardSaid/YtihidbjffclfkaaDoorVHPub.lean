/- Part of the proof: what it uses of HPub. -/
import Derived.Test.YtihidbjffclfkaaDoorVHGV
import Derived.Test.YtihidbjffclfkaaDoorVHParse
import Derived.Test.YtihidbjffclfkaaDoorVHShelf
import Derived.Test.YtihidbjffclfkaaDoorVPLex0
namespace Go.Proofs.YtihidbjffclfkaaDoor.PLex
open Go.RowKit Go.Proofs.YtihidbjffclfkaaDoorW.PrintWords Go.Proofs.YtihidbjffclfkaaDoor.Lx
set_option linter.unusedVariables false
set_option linter.unusedSimpArgs false
set_option maxRecDepth 100000 in
theorem parseUint_empty (b k : Int) (w : World) :
    Calls Tryd.prog 50 #[.string ⟨#[]⟩, .int .i64 b, .int .i64 k] w fun e w' => e = .returned (puTuple 0 .synt) ∧ w' = w := by
  go_enter Tryd.func50, Tryd.ntmps50
  go_wp2
  go_ret2
  exact ⟨rfl, rfl⟩
set_option maxRecDepth 100000 in
theorem pub_ok (t : ByteArray) (b k : Int) (m v : Nat) (hin : ∀ w, Calls Tryd.prog 50 #[.string t, .int .i64 b, .int .i64 k] w fun e w' => e = .returned (puTuple m (.ok v)) ∧ Below w.heap.size w w') (w : World) :
    Calls Tryd.prog 34 #[.string t, .int .i64 b, .int .i64 k] w fun e w' => e = .returned (.tuple #[.int .u64 v, .nilIface]) ∧ Below w.heap.size w w' := by
  have HIN := Lib.hid hin
  clear hin
  go_enter Tryd.func34, Tryd.ntmps34
  go_wp2_with (go_at_call 50; refine (HIN.out _).mono ?_; rintro e w1 ⟨rfl, hb⟩; simp only [puTuple])
  go_ret2
  exact ⟨rfl, hb⟩
def NumErr (n : Nat) (e : Ending) : Prop := ∃ N, e = .returned (.tuple #[.int .u64 n, .iface 100 (.pointer (some ⟨N, 0, none⟩))])
set_option maxRecDepth 100000 in
theorem pub_syntax (t : ByteArray) (b k : Int) (m : Nat) (hin : ∀ w, Calls Tryd.prog 50 #[.string t, .int .i64 b, .int .i64 k] w fun e w' => e = .returned (puTuple m .synt) ∧ Below w.heap.size w w') (hlim : t.size ≤ 281474976710656) (w : World) (hg : GV w) :
    Calls Tryd.prog 34 #[.string t, .int .i64 b, .int .i64 k] w fun e w' => NumErr 0 e ∧ Below w.heap.size w w' := by
  have HIN := Lib.hid hin
  have HG := Aside0.mk hg
  clear hin hg
  go_enter Tryd.func34, Tryd.ntmps34
  go_wp2_with (first | (go_at_call 50; refine (HIN.out _).mono ?_; rintro e w1 ⟨rfl, hb⟩; simp only [puTuple]; obtain ⟨ev, hv, hev⟩ := (GV.below HG.out hb).syn; have HB := Aside0.mk hb; clear hb; have HV := Aside0.mk (And.intro hv hev); clear hv hev) | (go_at_call 51; refine (Tryd.strconv_toError_syntax _ t b k ev _ hlim HV.out.1 HV.out.2).mono ?_; rintro e w2 ⟨M, rfl, hN, hh, hb2⟩; have HB2 := Aside0.mk (below_then HB.out HB.out.size hb2); clear hN hh hb2))
  go_ret2
  exact ⟨⟨M, rfl⟩, HB2.out⟩
set_option maxRecDepth 100000 in
theorem pub_range (t : ByteArray) (b k : Int) (m : Nat) (hin : ∀ w, Calls Tryd.prog 50 #[.string t, .int .i64 b, .int .i64 k] w fun e w' => e = .returned (puTuple m .range) ∧ Below w.heap.size w w') (hlim : t.size ≤ 281474976710656) (w : World) (hg : GV w) :
    Calls Tryd.prog 34 #[.string t, .int .i64 b, .int .i64 k] w fun e w' => NumErr m e ∧ Below w.heap.size w w' := by
  have HIN := Lib.hid hin
  have HG := Aside0.mk hg
  clear hin hg
  go_enter Tryd.func34, Tryd.ntmps34
  go_wp2_with (first | (go_at_call 50; refine (HIN.out _).mono ?_; rintro e w1 ⟨rfl, hb⟩; simp only [puTuple]; obtain ⟨ev, hv, hev⟩ := (GV.below HG.out hb).rng; have HB := Aside0.mk hb; clear hb; have HV := Aside0.mk (And.intro hv hev); clear hv hev) | (go_at_call 51; refine (Tryd.strconv_toError_range _ t b k ev _ hlim HV.out.1 HV.out.2).mono ?_; rintro e w2 ⟨M, rfl, hN, hh, hb2⟩; have HB2 := Aside0.mk (below_then HB.out HB.out.size hb2); clear hN hh hb2))
  go_ret2
  exact ⟨⟨M, rfl⟩, HB2.out⟩
end Go.Proofs.YtihidbjffclfkaaDoor.PLex
