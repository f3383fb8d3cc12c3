/- Part of the proof: what it uses of HPlain. -/
import Derived.Test.YtihidbjffclfkaaGreatDoorBHSpec2
namespace Go.Proofs.YtihidbjffclfkaaGreatDoor.Lx
theorem dig_le (c : UInt8) : dig c ≤ 99 := by
  unfold dig
  split
  · omega
  · split
    · omega
    · omega
theorem val_ge (base : Nat) (hb : 1 ≤ base) : ∀ (l : List UInt8) (n : Nat), n ≤ val base l n
  | [], n => Nat.le_refl _
  | c :: r, n => by
    have h := val_ge base hb r (n * base + dig c)
    have h2 : n * 1 ≤ n * base := Nat.mul_le_mul_left n hb
    show n ≤ val base r (n * base + dig c)
    omega
theorem pu_ok (base maxv : Nat) (hb : 1 ≤ base) : ∀ (l : List UInt8) (n : Nat), (∀ c ∈ l, dig c < base) → val base l n ≤ maxv → pu base maxv l n = .ok (val base l n)
  | [], n, _, _ => rfl
  | c :: r, n, hd, hv => by
    have h1 : dig c < base := hd c (by simp)
    have h2 := val_ge base hb r (n * base + dig c)
    have h3 : val base r (n * base + dig c) ≤ maxv := hv
    have h4 : ¬ maxv < n * base + dig c := by omega
    have h5 : ¬ base ≤ dig c := by omega
    simp only [pu, if_neg h5, if_neg h4]
    exact pu_ok base maxv hb r _ (fun x hx => hd x (by simp [hx])) h3
theorem pu_range (base maxv : Nat) (hb : 1 ≤ base) : ∀ (l : List UInt8) (n : Nat), (∀ c ∈ l, dig c < base) → n ≤ maxv → maxv < val base l n → pu base maxv l n = .range
  | [], n, _, hn, hv => absurd (show maxv < n from hv) (by omega)
  | c :: r, n, hd, hn, hv => by
    have h1 : dig c < base := hd c (by simp)
    have h5 : ¬ base ≤ dig c := by omega
    simp only [pu, if_neg h5]
    by_cases h4 : maxv < n * base + dig c
    · rw [if_pos h4]
    · rw [if_neg h4]
      exact pu_range base maxv hb r _ (fun x hx => hd x (by simp [hx])) (by omega) hv
theorem pu_one_bad (base maxv : Nat) (c : UInt8) (h : base ≤ dig c) : pu base maxv [c] 0 = .synt := by
  simp only [pu, if_pos h]
theorem val_lt (base : Nat) : ∀ (l : List UInt8) (n : Nat), (∀ c ∈ l, dig c < base) → val base l n < (n + 1) * base ^ l.length
  | [], n, _ => by simp [val]
  | c :: r, n, hd => by
    have h1 : dig c < base := hd c (by simp)
    have h := val_lt base r (n * base + dig c) (fun x hx => hd x (by simp [hx]))
    have h2 : (n * base + dig c + 1) ≤ (n + 1) * base := by rw [Nat.add_mul]; omega
    have h3 := Nat.mul_le_mul_right (base ^ r.length) h2
    have h4 : (n + 1) * base ^ (c :: r).length = (n + 1) * base * base ^ r.length := by rw [List.length_cons, Nat.pow_succ]; rw [Nat.mul_assoc, Nat.mul_comm (base ^ r.length) base]
    rw [h4]
    exact Nat.lt_of_lt_of_le h h3
theorem digN_le (base : Nat) : ∀ (m : Nat) (l : List UInt8), digN base m l ≤ m ∧ digN base m l ≤ l.length
  | 0, l => by simp [digN]
  | m + 1, [] => by simp [digN]
  | m + 1, c :: r => by
    have := digN_le base m r
    unfold digN
    split <;> simp
    omega
theorem digN_all (base : Nat) : ∀ (m : Nat) (l : List UInt8), ∀ c ∈ l.take (digN base m l), dig c < base
  | 0, l => by simp [digN]
  | m + 1, [] => by simp [digN]
  | m + 1, c :: r => by
    unfold digN
    split
    · rename_i h
      rw [List.take_succ_cons]
      intro x hx
      rcases List.mem_cons.1 hx with rfl | hx
      · exact h
      · exact digN_all base m r x hx
    · simp
theorem digN_eq (base : Nat) : ∀ (m : Nat) (l : List UInt8) (k : Nat), k ≤ m → k ≤ l.length → (∀ c ∈ l.take k, dig c < base) → (k = m ∨ k = l.length ∨ ∃ h : k < l.length, ¬ dig l[k] < base) → digN base m l = k
  | 0, l, k, h1, _, _, _ => by simp [digN]; omega
  | m + 1, [], k, _, h2, _, _ => by simp at h2; simp [digN, h2]
  | m + 1, c :: r, 0, _, _, _, h4 => by
    rcases h4 with h | h | ⟨h, h5⟩
    · omega
    · simp at h
    · simp at h5
      simp [digN, h5]
  | m + 1, c :: r, k + 1, h1, h2, h3, h4 => by
    have hc : dig c < base := h3 c (by simp)
    have ih := digN_eq base m r k (by omega) (by simp at h2; omega) (fun x hx => h3 x (by rw [List.take_succ_cons]; simp [hx])) (by
      rcases h4 with h | h | ⟨h, h5⟩
      · left; omega
      · right; left; simp at h; omega
      · right; right; exact ⟨by simp at h; omega, by simpa using h5⟩)
    simp [digN, hc, ih]
end Go.Proofs.YtihidbjffclfkaaGreatDoor.Lx
