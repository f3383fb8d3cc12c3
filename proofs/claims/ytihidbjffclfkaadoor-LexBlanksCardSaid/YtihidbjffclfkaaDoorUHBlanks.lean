/- Part of the proof: what it uses of HBlanks. -/
import Derived.Test.YtihidbjffclfkaaDoorUHJoined
import Derived.Test.YtihidbjffclfkaaDoorUHLexBlanks
namespace Go.Proofs.YtihidbjffclfkaaDoor.PLex
open Go.RowKit Go.Maps Go.Proofs.YtihidbjffclfkaaDoorW.PrintWords Go.Proofs.YtihidbjffclfkaaDoorW.PrintLast Go.Proofs.YtihidbjffclfkaaDoorW.PrintMore Go.Proofs.YtihidbjffclfkaaDoor.Lx
set_option linter.unusedVariables false
set_option linter.unusedSimpArgs false
structure PadS (p : List UInt8) : Prop where
  pad : Pad p
  stop : ∀ z, Stop (p ++ z)
  last : ∀ n, Lexed n (p ++ [47, 47]) (.ok [⟨0, n, [], 0⟩])
theorem stop_of (c : UInt8) (h : isAl c = false) (z : List UInt8) : Stop (c :: z) := by
  intro d r e
  cases e
  exact h
theorem rem_step (c : UInt8) (r : List UInt8) : remL (c :: r) = if c.toNat = 42 ∧ r.head?.map (·.toNat) = some 47 then some (r.drop 1) else remL r := by
  conv => lhs; unfold remL
theorem line_step (c : UInt8) (r : List UInt8) : lineL (c :: r) = if c.toNat = 10 then c :: r else lineL r := by
  conv => lhs; unfold lineL
theorem pad_line (p q : List UInt8) (h : ∀ c ∈ p, c.toNat ≠ 10) (hq : Pad q) : Pad (47 :: 47 :: (p ++ 10 :: q)) := by
  intro c r h1 h2 k hk
  obtain ⟨k, rfl⟩ : ∃ m, k = m + 2 := ⟨k - 2, by simp at hk; omega⟩
  have hl : ∀ p : List UInt8, (∀ c ∈ p, c.toNat ≠ 10) → lineL (p ++ 10 :: (q ++ c :: r)) = 10 :: (q ++ c :: r) := by
    intro p
    induction p with
    | nil => intro _; rw [List.nil_append, line_step, if_pos (by decide)]
    | cons a p ih =>
      intro h
      rw [List.cons_append, line_step, if_neg (h a (List.mem_cons_self ..))]
      exact ih (fun x hx => h x (List.mem_cons_of_mem _ hx))
  simp only [List.cons_append, List.append_assoc] at hk ⊢
  unfold skipL
  rw [if_neg (by decide), if_pos ⟨by decide, rfl⟩, line_step, if_neg (by decide), hl p h]
  unfold skipL
  rw [if_pos (by decide)]
  exact hq c r h1 h2 k (by simp at hk ⊢; omega)
theorem pad_rem (p q : List UInt8) (h : ∀ z, remL (p ++ z) = some z) (hq : Pad q) : Pad (47 :: 42 :: (p ++ q)) := by
  intro c r h1 h2 k hk
  obtain ⟨k, rfl⟩ : ∃ m, k = m + 1 := ⟨k - 1, by simp at hk; omega⟩
  simp only [List.cons_append, List.append_assoc] at hk ⊢
  unfold skipL
  rw [if_neg (by decide), if_neg (by intro h; have := h.2; simp at this), if_pos ⟨by decide, rfl⟩]
  simp only [List.drop_succ_cons, List.drop_zero]
  rw [h]
  exact hq c r h1 h2 k (by simp at hk ⊢; omega)
theorem last_of (p : List UInt8) (h : skipL (p ++ [47, 47]).length (p ++ [47, 47]) = ([], true)) (n : Nat) : Lexed n (p ++ [47, 47]) (.ok [⟨0, n, [], 0⟩]) := .end_ h
theorem pads_ok : ∀ b : Nat, b < 6 → PadS (rdOf ByteArray.empty padsL (b : Int)).data.toList ∧ (rdOf ByteArray.empty padsL (b : Int)).size ≤ 20 := by
  intro b hb
  have h6 : b = 0 ∨ b = 1 ∨ b = 2 ∨ b = 3 ∨ b = 4 ∨ b = 5 := by omega
  rcases h6 with rfl | rfl | rfl | rfl | rfl | rfl
  · exact ⟨⟨pad_blank 32 (by decide) pad_nil, fun z => stop_of 32 (by decide) _, last_of _ (by decide)⟩, by decide⟩
  · exact ⟨⟨pad_blank 10 (by decide) pad_nil, fun z => stop_of 10 (by decide) _, last_of _ (by decide)⟩, by decide⟩
  · exact ⟨⟨pad_blank 9 (by decide) (pad_blank 13 (by decide) (pad_blank 10 (by decide) pad_nil)), fun z => stop_of 9 (by decide) _, last_of _ (by decide)⟩, by decide⟩
  · exact ⟨⟨pad_blank 32 (by decide) (pad_line [32, 39, 108, 101, 116, 32, 42, 47] [] (by decide) pad_nil), fun z => stop_of 32 (by decide) _, last_of _ (by decide)⟩, by decide⟩
  · refine ⟨⟨pad_rem [32, 47, 47, 32, 10, 32, 42, 42, 32, 42, 47] [] (fun z => ?_) pad_nil, fun z => stop_of 47 (by decide) _, last_of _ (by decide)⟩, by decide⟩
    simp [rem_step]
  · refine ⟨⟨pad_blank 32 (by decide) (pad_rem [42, 47] _ (fun z => ?_) (pad_rem [42, 42, 47] _ (fun z => ?_) (pad_blank 10 (by decide) pad_nil))), fun z => stop_of 32 (by decide) _, last_of _ (by decide)⟩, by decide⟩
    · simp [rem_step]
    · simp [rem_step]
def padAt (how : List Int) (i : Nat) : ByteArray := if how = [] then ⟨#[32]⟩ else rdOf ByteArray.empty padsL ((signetryref00_Bring.f (rd how ((i % how.length : Nat) : Int)) 6).getD 0)
theorem padAt_ok (how : List Int) (i : Nat) : PadS (padAt how i).data.toList ∧ (padAt how i).size ≤ 20 ∧ (how = [] → padAt how i = ⟨#[32]⟩) ∧ (how ≠ [] → ∃ b : Nat, b < 6 ∧ signetryref00_Bring.f (rd how ((i % how.length : Nat) : Int)) 6 = some (b : Int) ∧ rdOf ByteArray.empty padsL (b : Int) = padAt how i) := by
  unfold padAt
  by_cases h : how = []
  · rw [if_pos h]
    have := pads_ok 0 (by decide)
    exact ⟨this.1, this.2, fun _ => rfl, fun h2 => absurd h h2⟩
  · rw [if_neg h]
    obtain ⟨b, hb, hb2⟩ := bring_nat (rd how ((i % how.length : Nat) : Int)) 6 (by decide) (by decide)
    have hb' : signetryref00_Bring.f (rd how ((i % how.length : Nat) : Int)) 6 = some (b : Int) := hb
    rw [hb']
    have := pads_ok b hb2
    exact ⟨this.1, this.2, fun h2 => absurd h2 h, fun _ => ⟨b, hb2, rfl, rfl⟩⟩
def txtOf (how : List Int) (ws : List S28) : Nat → ByteArray
  | 0 => ⟨#[]⟩
  | i + 1 => if h : i < ws.length then (txtOf how ws i ++ padAt how i) ++ ⟨(text [ws[i]]).toArray⟩ else txtOf how ws i ++ padAt how i
def fromOf (how : List Int) (ws : List S28) : Nat → Nat → List UInt8
  | 0, i => (padAt how i).data.toList ++ [47, 47]
  | d + 1, i => (padAt how i).data.toList ++ ((match ws[i]? with | some x => text [x] | none => []) ++ fromOf how ws d (i + 1))
theorem text_one {x : S28} {src : List UInt8} (h : Good x src) : text [x] = src := by
  rw [text_cons h]
  simp [tail_nil]
theorem txt_all (how : List Int) (ws : List S28) : ∀ (d i : Nat), i + d = ws.length → (txtOf how ws i).data.toList ++ fromOf how ws d i = (txtOf how ws (ws.length + 1) ++ ⟨#[47, 47]⟩).data.toList
  | 0, i, h => by
    obtain rfl : i = ws.length := by omega
    simp only [fromOf, txtOf]
    rw [dif_neg (by omega)]
    simp [ByteArray.data_append]
  | d + 1, i, h => by
    have hi : i < ws.length := by omega
    rw [← txt_all how ws d (i + 1) (by omega)]
    simp only [fromOf, txtOf]
    rw [dif_pos hi, List.getElem?_eq_getElem hi]
    simp [ByteArray.data_append]
theorem stop_from (how : List Int) (ws : List S28) (d i : Nat) : Stop (fromOf how ws d i) := by
  cases d with
  | zero => exact (padAt_ok how i).1.stop _
  | succ d => exact (padAt_ok how i).1.stop _
theorem row_from (how : List Int) (ws : List S28) (hg : Goods ws) : ∀ (d i : Nat), i + d = ws.length → Row (ws.drop i) (fromOf how ws d i) ((padAt how ws.length).data.toList ++ [47, 47])
  | 0, i, h => by
    obtain rfl : i = ws.length := by omega
    rw [List.drop_length]
    exact Row.nil
  | d + 1, i, h => by
    have hi : i < ws.length := by omega
    obtain ⟨_, src, hx⟩ := hg ws[i] (List.getElem_mem hi)
    rw [List.drop_eq_getElem_cons hi]
    simp only [fromOf]
    rw [List.getElem?_eq_getElem hi]
    simp only
    rw [text_one hx]
    exact Row.cons (padAt_ok how i).1.pad hx (stop_from how ws d (i + 1)) (row_from how ws hg d (i + 1) (by omega))
theorem txt_len (how : List Int) (ws : List S28) (hg : Goods ws) : ∀ i, i ≤ ws.length + 1 → (txtOf how ws i).size ≤ 183 * i
  | 0, _ => Nat.le_refl _
  | i + 1, h => by
    have ih := txt_len how ws hg i (by omega)
    have h2 := (padAt_ok how i).2.1
    simp only [txtOf]
    by_cases hi : i < ws.length
    · obtain ⟨_, src, hx⟩ := hg ws[i] (List.getElem_mem hi)
      have h3 := good_len hx
      rw [dif_pos hi, text_one hx, ByteArray.size_append, ByteArray.size_append, show (⟨src.toArray⟩ : ByteArray).size = src.length by simp [ByteArray.size]]
      omega
    · rw [dif_neg hi, ByteArray.size_append]
      omega
theorem padded (how : List Int) (ws : List S28) (hg : Goods ws) (hl : ws.length ≤ 60) : Padded how ws (txtOf how ws) where
  zero := rfl
  small := fun i hi => by have := txt_len how ws hg i hi; omega
  pad := fun i hi => by
    obtain ⟨_, p2, p3, p4⟩ := padAt_ok how i
    refine ⟨padAt how i, p2, p3, p4, fun h => ?_, fun h => ?_⟩
    · obtain ⟨h1, src, hx⟩ := hg ws[i] (List.getElem_mem h)
      refine ⟨⟨(text [ws[i]]).toArray⟩, ?_, ?_, ?_⟩
      · have := good_len hx
        rw [text_one hx, show (⟨src.toArray⟩ : ByteArray).size = src.length by simp [ByteArray.size]]
        omega
      · rw [rdT_get ws i h]
        exact join_text [ws[i]] (fun x hx2 => by rw [List.mem_singleton.1 hx2]; exact ⟨h1, src, hx⟩) (by simp)
      · simp only [txtOf]
        rw [dif_pos h]
    · simp only [txtOf]
      rw [dif_neg (by omega)]
theorem LexBlanks_walk (l : List S56) (hb : ∀ x ∈ l, ∃ b, x.f2 = bl b) (A0 : Option Addr) (c0 : Nat) (how : List Int) (A1 : Option Addr) (c1 : Nat) (w : World) (hr0 : Kd.C k56 w A0 l.length l) (hc0 : l.length ≤ c0) (hr1 : Kd.C (Kd.int .i64) w A1 how.length how) (hc1 : how.length ≤ c1) (hlh : how.length ≤ 9223372036854775807) (hg : GV w) :
    Calls Tryd.prog 6 #[.slice A0 l.length c0, .slice A1 how.length c1] w fun e w' => e = .returned (.bool true) ∧ Below w.heap.size w w' := by
  obtain ⟨ws, h1, h2, h3⟩ := row_good l hb
  have hall := txt_all how ws ws.length 0 (by omega)
  have hrow := row_from how ws h3 ws.length 0 (by omega)
  have hz : (txtOf how ws 0).data.toList = [] := rfl
  rw [hz, List.nil_append] at hall
  rw [List.drop_zero, hall] at hrow
  have hlen := txt_len how ws h3 (ws.length + 1) (by omega)
  have hsz : (txtOf how ws (ws.length + 1) ++ ⟨#[47, 47]⟩ : ByteArray).size = (txtOf how ws (ws.length + 1)).size + 2 := by rw [ByteArray.size_append]; rfl
  have hw := words_eq (txtOf how ws (ws.length + 1) ++ ⟨#[47, 47]⟩) (by omega)
  obtain ⟨us, g1, g2, g3⟩ := hrow.lexed (txtOf how ws (ws.length + 1) ++ ⟨#[47, 47]⟩ : ByteArray).data.toList.length _ ((padAt_ok how ws.length).1.last _)
  rw [g3.lexS] at hw
  exact LexBlanks_ok l A0 c0 how A1 c1 w hr0 hc0 hr1 hc1 hlh hg 200 ws h2 h1 _ (padded how ws h3 h2) _ hw (by simp [g1]) (fun i hi => rd_like ws us _ g1 g2 i hi)
end Go.Proofs.YtihidbjffclfkaaDoor.PLex
