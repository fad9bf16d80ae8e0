/- What the small functions of slots, tokens, prices and distances come to, as plain functions. -/
namespace Go.GL
def lenBits (s : Int) : Int := if s < 8 ∨ s = 28 then 0 else (s - 8) / 4 + 1
def distBits (s : Int) : Int := if s < 4 then 0 else (s - 4) / 2 + 1
def findL (bits : Int → Int) (n : Int) : Nat → Int → Int → Int × Int × Int
  | 0, _, _ => (0, 0, 0)
  | k + 1, slot, first => if n < first + 1 * 2 ^ (bits slot).toNat then (slot, bits slot, n - first) else findL bits n k (slot + 1) (first + 1 * 2 ^ (bits slot).toNat)
def find (bits : Int → Int) (n first many : Int) : Int × Int × Int := findL bits n many.toNat 0 first
def slotsLen (n : Int) : Int × Int × Int × Int := if n < 2 ∨ 258 < n then (0, 0, 0, 2) else ((find lenBits n 2 29).1, (find lenBits n 2 29).2.1, (find lenBits n 2 29).2.2, 0)
def slotsDist (n : Int) : Int × Int × Int × Int := if n < 1 ∨ 67108864 < n then (0, 0, 0, 2) else ((find distBits n 1 52).1, (find distBits n 1 52).2.1, (find distBits n 1 52).2.2, 0)
theorem lenBits_bd (s : Int) (h : 0 ≤ s ∧ s < 52) : 0 ≤ lenBits s ∧ lenBits s ≤ 24 := by unfold lenBits; split <;> omega
theorem distBits_bd (s : Int) (h : 0 ≤ s ∧ s < 52) : 0 ≤ distBits s ∧ distBits s ≤ 24 := by unfold distBits; split <;> omega
theorem pow_bd (b : Int) (h : 0 ≤ b ∧ b ≤ 24) : 1 ≤ (1 : Int) * 2 ^ b.toNat ∧ (1 : Int) * 2 ^ b.toNat ≤ 16777216 := by
  obtain ⟨n, hn⟩ : ∃ n : Nat, b = n := ⟨b.toNat, by omega⟩
  subst hn
  have h1 : n ≤ 24 := by omega
  rw [Int.toNat_natCast, Int.one_mul]
  have h2 : (2 : Nat) ^ n ≤ 2 ^ 24 := Nat.pow_le_pow_right (by omega) h1
  have h3 : 1 ≤ (2 : Nat) ^ n := Nat.one_le_two_pow
  have h4 : ((2 : Int) ^ n) = ((2 ^ n : Nat) : Int) := by simp
  rw [h4]; omega
end Go.GL
namespace Go.GL
def indexF (p : Int → Bool) : List Int → Int → Int
  | [], _ => -1
  | x :: r, i => if p x = true then i else indexF p r (i + 1)
theorem indexF_step {p : Int → Bool} {xs : List Int} {k : Int} (h0 : 0 ≤ k) (h : k < xs.length) : indexF p (xs.drop k.toNat) k = if p (xs.getD k.toNat 0) = true then k else indexF p (xs.drop (k + 1).toNat) (k + 1) := by
  have hlt : k.toNat < xs.length := by omega
  rw [List.drop_eq_getElem_cons hlt, indexF, List.getD_eq_getElem?_getD, List.getElem?_eq_getElem hlt]
  rw [show (k + 1).toNat = k.toNat + 1 from by omega]
  rfl
end Go.GL
namespace Go.GL
theorem findL_bd (bits : Int → Int) (n : Int) : ∀ (k : Nat) (s f : Int), 0 ≤ s → 0 ≤ (findL bits n k s f).1 ∧ (findL bits n k s f).1 ≤ s + k
  | 0, s, f, h => by simp [findL]; omega
  | k + 1, s, f, h => by
    unfold findL
    split
    · simp; omega
    · have := findL_bd bits n k (s + 1) (f + 1 * 2 ^ (bits s).toNat) (by omega)
      omega
theorem slotsLen_bd (n : Int) : 0 ≤ (slotsLen n).1 ∧ (slotsLen n).1 ≤ 29 := by
  unfold slotsLen
  split
  · simp
  · simp only [find]
    have := findL_bd lenBits n 29 0 2 (by omega)
    simpa using this
end Go.GL
namespace Go.GL
def base (bits : Int → Int) (b0 : Int) : Nat → Int
  | 0 => b0
  | s + 1 => base bits b0 s + 1 * 2 ^ (bits s).toNat
theorem base_bd {bits : Int → Int} (b0 : Int) (hb : ∀ s, 0 ≤ s ∧ s < 52 → 0 ≤ bits s ∧ bits s ≤ 24) : ∀ (s : Nat), s ≤ 52 → b0 + s ≤ base bits b0 s ∧ base bits b0 s ≤ b0 + s * 16777216
  | 0, _ => by simp [base]
  | s + 1, h => by
    have h1 := base_bd b0 hb s (by omega)
    have h2 := pow_bd (bits s) (hb s (by omega))
    simp only [base]; omega
theorem base_mono {bits : Int → Int} {b0 : Int} (hb : ∀ s, 0 ≤ s ∧ s < 52 → 0 ≤ bits s ∧ bits s ≤ 24) : ∀ (a k : Nat), a + k ≤ 52 → base bits b0 a ≤ base bits b0 (a + k)
  | _, 0, _ => Int.le_refl _
  | a, k + 1, h => by
    have h1 := base_mono (b0 := b0) hb a k (by omega)
    have h2 := pow_bd (bits ((a + k : Nat) : Int)) (hb _ (by omega))
    rw [← Nat.add_assoc]; simp only [base]; omega
theorem findL_at {bits : Int → Int} {b0 n : Int} (hb : ∀ s, 0 ≤ s ∧ s < 52 → 0 ≤ bits s ∧ bits s ≤ 24) {s : Nat} (h0 : base bits b0 s ≤ n) (h1 : n < base bits b0 (s + 1)) : ∀ (k j : Nat), j ≤ s → s < j + k → j + k ≤ 52 → findL bits n k j (base bits b0 j) = ((s : Int), bits s, n - base bits b0 s)
  | 0, j, h2, h3, _ => by omega
  | k + 1, j, h2, h3, h4 => by
    unfold findL
    by_cases hjs : j = s
    · subst hjs; rw [if_pos]; simp only [base] at h1; exact h1
    · have hm := base_mono (b0 := b0) hb (j + 1) (s - (j + 1)) (by omega)
      rw [show j + 1 + (s - (j + 1)) = s from by omega] at hm
      rw [if_neg (by simp only [base] at hm; omega)]
      have := findL_at hb h0 h1 k (j + 1) (by omega) (by omega) (by omega)
      simp only [base] at this
      exact_mod_cast this
theorem find_at {bits : Int → Int} {b0 n : Int} {many : Nat} (hm : many ≤ 52) (hb : ∀ s, 0 ≤ s ∧ s < 52 → 0 ≤ bits s ∧ bits s ≤ 24) {s : Nat} (hs : s < many) (h0 : base bits b0 s ≤ n) (h1 : n < base bits b0 (s + 1)) : find bits n b0 many = ((s : Int), bits s, n - base bits b0 s) := by
  unfold find
  have := findL_at hb h0 h1 many 0 (by omega) (by omega) (by omega)
  simpa [base] using this
theorem base_len : base lenBits 2 29 = 259 := by decide
theorem base_dist : base distBits 1 52 = 67108865 := by decide
def fineB (xs : List Int) : Bool := xs.all fun x => decide (1 ≤ x ∧ x ≤ 1048576)
theorem fineB_step {xs : List Int} {k : Int} (h0 : 0 ≤ k) (h : k < xs.length) : fineB (xs.drop k.toNat) = (decide (1 ≤ xs.getD k.toNat 0 ∧ xs.getD k.toNat 0 ≤ 1048576) && fineB (xs.drop (k + 1).toNat)) := by
  have hlt : k.toNat < xs.length := by omega
  rw [List.drop_eq_getElem_cons hlt, show (k + 1).toNat = k.toNat + 1 from by omega, List.getD_eq_getElem?_getD, List.getElem?_eq_getElem hlt]
  rfl
def pErr (main dist : List Int) : Int := if main.length ≠ 401 ∨ dist.length ≠ 52 then 4 else if fineB main = true ∧ fineB dist = true then 0 else 2
theorem indexF_neg {p : Int → Bool} : ∀ (xs : List Int) (i : Int), 0 ≤ i → (indexF p xs i < 0 ↔ ∀ x ∈ xs, p x = false)
  | [], i, h => by simp [indexF]
  | x :: r, i, h => by
    unfold indexF
    have := indexF_neg (p := p) r (i + 1) (by omega)
    cases hp : p x <;> simp [hp, this]
    omega
theorem fineB_index (xs : List Int) : (0 ≤ indexF (fun n => decide (n < 1 ∨ 1048576 < n)) xs 0) ↔ fineB xs = false := by
  have h := indexF_neg (p := fun n => decide (n < 1 ∨ 1048576 < n)) xs 0 (by omega)
  have h2 : fineB xs = true ↔ ∀ x ∈ xs, (fun n => decide (n < 1 ∨ 1048576 < n)) x = false := by
    simp only [fineB, List.all_eq_true, decide_eq_true_eq, decide_eq_false_iff_not]
    exact ⟨fun h x hx => by have := h x hx; omega, fun h x hx => by have := h x hx; omega⟩
  rw [← h2] at h
  cases hf : fineB xs <;> simp [hf] at h ⊢ <;> omega
end Go.GL
