/- Part of the proof: what it uses of HBack. -/
import Derived.Test.YtihidbjffclfkaaDoorUHJoined
import Derived.Test.YtihidbjffclfkaaDoorUHLexBack
namespace Go.Proofs.YtihidbjffclfkaaDoor.PLex
open Go.RowKit Go.Maps Go.Proofs.YtihidbjffclfkaaDoorW.PrintWords Go.Proofs.YtihidbjffclfkaaDoorW.PrintLast Go.Proofs.YtihidbjffclfkaaDoorW.PrintMore Go.Proofs.YtihidbjffclfkaaDoor.Lx
set_option linter.unusedVariables false
theorem LexBack_walk (l : List S56) (hb : ∀ x ∈ l, ∃ b, x.f2 = bl b) (A0 : Option Addr) (c0 : Nat) (w : World) (hr0 : Kd.C k56 w A0 l.length l) (hc0 : l.length ≤ c0) (hg : GV w) :
    Calls Tryd.prog 5 #[.slice A0 l.length c0] w fun e w' => e = .returned (.bool true) ∧ Below w.heap.size w w' := by
  obtain ⟨ws, h1, h2, h3⟩ := row_good l hb
  obtain ⟨us, g1, g2, g3⟩ := text_lexed ws h3
  have hs : (⟨(text ws).toArray⟩ : ByteArray).size = (text ws).length := by simp [ByteArray.size]
  have hlen := text_len ws h3
  have hw := words_eq ⟨(text ws).toArray⟩ (by omega)
  rw [show (⟨(text ws).toArray⟩ : ByteArray).data.toList = text ws from rfl, g3] at hw
  refine LexBack_ok l A0 c0 w hr0 hc0 hg 200 ws h2 h1 _ (join_text ws h3 h2) _ hw (by simp [g1]) ?_ (fun i hi => rd_like ws us _ g1 g2 i hi)
  rw [rd_last us _ ws.length g1, hs]
  rfl
end Go.Proofs.YtihidbjffclfkaaDoor.PLex
