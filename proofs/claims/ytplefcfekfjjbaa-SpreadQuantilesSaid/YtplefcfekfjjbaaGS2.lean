/- Quantiles of a sorted row, as plain functions: no conditions beyond those each theorem states. -/
import Derived.Test.YtplefcfekfjjbaaGS1
/- Quantiles: what the sorted row has at a place is what the counting finds; a greater part is no less. -/
namespace Go.GL
theorem sort_sorted (l : List Int) : (sortF l).Pairwise (· ≤ ·) := by
  have h1 : (sortF l).Pairwise (fun a b => decide (a ≤ b) = true) := List.pairwise_mergeSort (by intro a b c; simp; omega) (by intro a b; simp; omega) l
  exact h1.imp (by simp)
theorem sort_perm (l : List Int) : (sortF l).Perm l := List.mergeSort_perm l _
theorem sort_len (l : List Int) : (sortF l).length = l.length := (sort_perm l).length_eq
theorem sort_eq {l s : List Int} (hp : l.Perm s) (hs : s.Pairwise (· ≤ ·)) : sortF l = s :=
  List.Perm.eq_of_pairwise (le := fun a b : Int => a ≤ b) (fun a b _ _ h h' => by omega) (sort_sorted l) hs ((sort_perm l).trans hp)
theorem quant_a : quantF [3, 1, 2] 1 2 = (2, 0) := by
  rw [quantF, sort_eq (s := [1, 2, 3]) (by decide) (by decide)]; decide
theorem quant_b : quantF [] 1 2 = (0, 7) := by rfl
theorem quant_c : quantF [1] 3 2 = (0, 1) := by rfl
theorem bkt_a : bucketsF [0, 1, 2, 3, 4, -5] = [2, 1, 2, 1] := by decide
def tk1 : Tok := ⟨0, 1, 0, 0, 0⟩
def tk2 : Tok := ⟨1, 0, 9, 1, 0⟩
def tk3 : Tok := ⟨5, 0, 0, 0, 0⟩
theorem lens_a : lensF [tk1, tk2, tk3] = [9] := by decide
theorem lessN_app (x : Int) : ∀ a b : List Int, lessN x (a ++ b) = lessN x a + lessN x b
  | [], b => by simp [lessN]
  | y :: r, b => by simp only [List.cons_append, lessN, lessN_app x r b]; omega
theorem alikeN_app (x : Int) : ∀ a b : List Int, alikeN x (a ++ b) = alikeN x a + alikeN x b
  | [], b => by simp [alikeN]
  | y :: r, b => by simp only [List.cons_append, alikeN, alikeN_app x r b]; omega
theorem lessN_perm (x : Int) {a b : List Int} (h : a.Perm b) : lessN x a = lessN x b := by
  induction h with
  | nil => rfl
  | cons y _ ih => simp [lessN, ih]
  | swap y z l => simp only [lessN]; omega
  | trans _ _ h1 h2 => rw [h1, h2]
theorem alikeN_perm (x : Int) {a b : List Int} (h : a.Perm b) : alikeN x a = alikeN x b := by
  induction h with
  | nil => rfl
  | cons y _ ih => simp [alikeN, ih]
  | swap y z l => simp only [alikeN]; omega
  | trans _ _ h1 h2 => rw [h1, h2]
theorem lessN_zero (x : Int) : ∀ {l : List Int}, (∀ y ∈ l, x ≤ y) → lessN x l = 0
  | [], _ => rfl
  | y :: r, h => by
    have h1 := h y (by simp)
    have h2 := lessN_zero x (l := r) fun z hz => h z (by simp [hz])
    simp only [lessN, h2]; split <;> omega
theorem le_all (x : Int) : ∀ {l : List Int}, (∀ y ∈ l, y ≤ x) → lessN x l + alikeN x l = l.length
  | [], _ => rfl
  | y :: r, h => by
    have h1 := h y (by simp)
    have h2 := le_all x (l := r) fun z hz => h z (by simp [hz])
    simp only [lessN, alikeN, List.length_cons]; split <;> split <;> omega
theorem le_lt {x y : Int} (h : y < x) : ∀ l : List Int, lessN y l + alikeN y l ≤ lessN x l
  | [] => by simp [lessN, alikeN]
  | z :: r => by
    have := le_lt h r
    simp only [lessN, alikeN]; split <;> split <;> split <;> omega
theorem at_sorted {s : List Int} (hs : s.Pairwise (· ≤ ·)) {k : Nat} (hk : k < s.length) : lessN s[k] s ≤ k ∧ (k : Int) < lessN s[k] s + alikeN s[k] s := by
  have hle : ∀ i j (hi : i < s.length) (hj : j < s.length), i ≤ j → s[i] ≤ s[j] := fun i j hi hj hij => by
    rcases Nat.lt_or_ge i j with h | h
    · exact List.pairwise_iff_getElem.1 hs i j hi hj h
    · obtain rfl : i = j := by omega
      exact Int.le_refl _
  constructor
  · have h0 := lessN_app (s[k]) (s.take k) (s.drop k)
    have h1 : lessN (s[k]) (s.drop k) = 0 := lessN_zero _ fun y hy => by
      obtain ⟨j, hj, rfl⟩ := List.mem_iff_getElem.1 hy
      rw [List.getElem_drop]
      exact hle _ _ _ _ (by omega)
    have h2 := lessN_bd (s[k]) (s.take k)
    rw [List.length_take] at h2
    rw [List.take_append_drop] at h0
    omega
  · have h1 : lessN (s[k]) (s.take (k + 1)) + alikeN (s[k]) (s.take (k + 1)) = ((s.take (k + 1)).length : Int) := le_all _ fun y hy => by
      obtain ⟨j, hj, rfl⟩ := List.mem_iff_getElem.1 hy
      rw [List.length_take] at hj
      rw [List.getElem_take]
      exact hle _ _ _ _ (by omega)
    rw [List.length_take] at h1
    have h2 := lessN_bd (s[k]) (s.drop (k + 1))
    have h3 := alikeN_bd (s[k]) (s.drop (k + 1))
    have h4 := lessN_app (s[k]) (s.take (k + 1)) (s.drop (k + 1))
    have h5 := alikeN_app (s[k]) (s.take (k + 1)) (s.drop (k + 1))
    rw [List.take_append_drop] at h4 h5
    omega
theorem refQ_of {l : List Int} {a x : Int} (hu : ∀ y, lessN y l ≤ a ∧ a < lessN y l + alikeN y l → y = x) (hx : lessN x l ≤ a ∧ a < lessN x l + alikeN x l) : ∀ r : List Int, x ∈ r → refQ l a r = x
  | y :: r, hm => by
    rw [refQ]
    split
    · rename_i h; exact hu y h
    · rename_i h
      refine refQ_of hu hx r ?_
      rcases List.mem_cons.1 hm with rfl | h'
      · exact absurd hx h
      · exact h'
theorem quant_eq (xs : List Int) (m o : Int) : quantF xs m o = quantR xs m o := by
  unfold quantF quantR
  by_cases h1 : o < 1 ∨ 1048576 < o ∨ m < 0 ∨ o < m
  · rw [if_pos h1, if_pos h1]
  rw [if_neg h1, if_neg h1]
  by_cases h2 : xs = []
  · rw [if_pos h2, if_pos h2]
  rw [if_neg h2, if_neg h2]
  have hn : 1 ≤ (xs.length : Int) := by have := List.length_pos_iff.2 h2; omega
  have hq := quant_at (m := m) (n := (xs.length : Int)) (o := o) (by omega) (by omega) (by omega) hn
  generalize ha : m * ((xs.length : Int) - 1) / o = a at hq
  have hk : a.toNat < (sortF xs).length := by rw [sort_len]; omega
  have hs := at_sorted (sort_sorted xs) hk
  rw [lessN_perm _ (sort_perm xs), alikeN_perm _ (sort_perm xs)] at hs
  have hx : lessN (sortF xs)[a.toNat] xs ≤ a ∧ a < lessN (sortF xs)[a.toNat] xs + alikeN (sortF xs)[a.toNat] xs := by omega
  rw [refQ_of (x := (sortF xs)[a.toNat]) (fun y hy => ?_) hx xs ((sort_perm xs).mem_iff.1 (List.getElem_mem hk)), List.getD_eq_getElem?_getD, List.getElem?_eq_getElem hk]
  · rfl
  · rcases Int.lt_trichotomy y ((sortF xs)[a.toNat]) with h | h | h
    · have := le_lt h xs; omega
    · exact h
    · have := le_lt h xs; omega
theorem quant_mono {xs : List Int} {m m' o : Int} (h : m ≤ m') (h1 : (quantF xs m o).2 = 0) (h2 : (quantF xs m' o).2 = 0) : (quantF xs m o).1 ≤ (quantF xs m' o).1 := by
  unfold quantF at *
  split at h1
  · simp at h1
  split at h1
  · simp at h1
  rename_i c1 c2
  split at h2
  · simp at h2
  rename_i c3
  rw [if_neg c1, if_neg c2, if_neg c3, if_neg c2]
  have hn : 1 ≤ (xs.length : Int) := by have := List.length_pos_iff.2 c2; omega
  have hq := quant_at (m := m) (n := (xs.length : Int)) (o := o) (by omega) (by omega) (by omega) hn
  have hq' := quant_at (m := m') (n := (xs.length : Int)) (o := o) (by omega) (by omega) (by omega) hn
  have hle : m * ((xs.length : Int) - 1) / o ≤ m' * ((xs.length : Int) - 1) / o := Int.ediv_le_ediv (by omega) (Int.mul_le_mul_of_nonneg_right h (by omega))
  generalize m * ((xs.length : Int) - 1) / o = a at *
  generalize m' * ((xs.length : Int) - 1) / o = b at *
  have ha : a.toNat < (sortF xs).length := by rw [sort_len]; omega
  have hb : b.toNat < (sortF xs).length := by rw [sort_len]; omega
  simp only [List.getD_eq_getElem?_getD, List.getElem?_eq_getElem ha, List.getElem?_eq_getElem hb, Option.getD_some]
  rcases Nat.lt_or_ge a.toNat b.toNat with hab | hab
  · exact List.pairwise_iff_getElem.1 (sort_sorted xs) _ _ ha hb hab
  · have : a.toNat = b.toNat := by omega
    simp only [this]; exact Int.le_refl _
end Go.GL
