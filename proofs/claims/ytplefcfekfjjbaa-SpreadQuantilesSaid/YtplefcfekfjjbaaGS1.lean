/- What the functions of the package spread come to, as plain functions: no conditions. -/
import Derived.Test.YtplefcfekfjjbaaGL2
import Derived.Lib.BitFns
/- What the functions of 'spread' come to, as plain functions. -/
namespace Go.GL
def sortF (l : List Int) : List Int := l.mergeSort fun x y => decide (x ≤ y)
def quantF (l : List Int) (n of_ : Int) : Int × Int :=
  if of_ < 1 ∨ 1048576 < of_ ∨ n < 0 ∨ of_ < n then (0, 1) else if l = [] then (0, 7) else ((sortF l).getD (n * ((l.length : Int) - 1) / of_).toNat 0, 0)
def lessN (x : Int) : List Int → Int
  | [] => 0
  | y :: r => (if y < x then 1 else 0) + lessN x r
def alikeN (x : Int) : List Int → Int
  | [] => 0
  | y :: r => (if y = x then 1 else 0) + alikeN x r
def refQ (l : List Int) (a : Int) : List Int → Int
  | [] => 0
  | x :: r => if lessN x l ≤ a ∧ a < lessN x l + alikeN x l then x else refQ l a r
def quantR (l : List Int) (n of_ : Int) : Int × Int :=
  if of_ < 1 ∨ 1048576 < of_ ∨ n < 0 ∨ of_ < n then (0, 1) else if l = [] then (0, 7) else (refQ l (n * ((l.length : Int) - 1) / of_) l, 0)
def lensF : List Tok → List Int
  | [] => []
  | t :: r => if tokErr t = 0 ∧ t.kind ≠ 0 then t.len :: lensF r else lensF r
def bktI (x : Int) : Nat := Lib.bitLen (max 0 x).toNat
def bktL : List Int → List Int → Int → List Int × Int
  | [], n, last => (n, last)
  | x :: r, n, last => bktL r (n.set (bktI x) (n.getD (bktI x) 0 + 1)) (max last ((bktI x : Int) + 1))
def bucketsF (l : List Int) : List Int := (bktL l (List.replicate 64 0) 0).1.take (bktL l (List.replicate 64 0) 0).2.toNat
theorem lessN_bd (x : Int) : ∀ l : List Int, 0 ≤ lessN x l ∧ lessN x l ≤ l.length
  | [] => by simp [lessN]
  | y :: r => by have := lessN_bd x r; simp only [lessN, List.length_cons]; split <;> omega
theorem alikeN_bd (x : Int) : ∀ l : List Int, 0 ≤ alikeN x l ∧ alikeN x l ≤ l.length
  | [] => by simp [alikeN]
  | y :: r => by have := alikeN_bd x r; simp only [alikeN, List.length_cons]; split <;> omega
theorem getD_drop {xs : List Int} {i : Int} (h0 : 0 ≤ i) (h : i < xs.length) : xs.drop i.toNat = xs.getD i.toNat 0 :: xs.drop (i + 1).toNat := by
  have hlt : i.toNat < xs.length := by omega
  rw [List.drop_eq_getElem_cons hlt, List.getD_eq_getElem?_getD, List.getElem?_eq_getElem hlt, show (i + 1).toNat = i.toNat + 1 from by omega]; rfl
theorem drop_end {α : Type} {xs : List α} {i : Int} (h : (xs.length : Int) ≤ i) : xs.drop i.toNat = [] := List.drop_eq_nil_of_le (by omega)
theorem bitLenAux_le : ∀ (k f x : Nat), x < 2 ^ k → Lib.bitLenAux f x ≤ k
  | _, 0, _, _ => by simp [Lib.bitLenAux]
  | 0, f + 1, x, h => by simp [Lib.bitLenAux]; omega
  | k + 1, f + 1, x, h => by
    unfold Lib.bitLenAux
    split
    · omega
    · have := bitLenAux_le k f (x / 2) (by rw [Nat.pow_succ] at h; omega)
      omega
theorem bktI_le {x : Int} (h : x ≤ 9223372036854775807) : bktI x ≤ 63 := bitLenAux_le 63 64 _ (by omega)
theorem take_eq_step {xs ys : List Int} {k : Int} (h0 : 0 ≤ k) (hx : k < xs.length) (hy : k < ys.length) (h : xs.drop k.toNat = ys.drop k.toNat ↔ xs = ys) :
    (xs.getD k.toNat 0 ≠ ys.getD k.toNat 0 → xs ≠ ys) ∧ (xs.getD k.toNat 0 = ys.getD k.toNat 0 → (xs.drop (k + 1).toNat = ys.drop (k + 1).toNat ↔ xs = ys)) := by
  rw [getD_drop h0 hx, getD_drop h0 hy] at h
  constructor
  · intro hne he; exact hne (by have := h.2 he; injection this)
  · intro he; rw [← h, he]; constructor
    · intro h'; rw [h']
    · intro h'; injection h'
theorem bkt_step {n : List Int} {i : Int} {x : Int} (hn : ∀ j, 0 ≤ n.getD j 0 ∧ n.getD j 0 ≤ i) : ∀ j, 0 ≤ (n.set (bktI x) (n.getD (bktI x) 0 + 1)).getD j 0 ∧ (n.set (bktI x) (n.getD (bktI x) 0 + 1)).getD j 0 ≤ i + 1 := fun j => by
  simp only [List.getD_eq_getElem?_getD] at *
  rw [List.getElem?_set]
  split
  · subst_vars
    split
    · have := hn (bktI x); simp; omega
    · have := hn 0; simp; have h1 := hn n.length; simp at h1; omega
  · have := hn j; omega
theorem quant_at {m n o : Int} (h0 : 0 ≤ m) (h1 : m ≤ o) (h2 : 1 ≤ o) (h3 : 1 ≤ n) : 0 ≤ m * (n - 1) / o ∧ m * (n - 1) / o < n := by
  have h4 : 0 ≤ m * (n - 1) := Int.mul_nonneg h0 (by omega)
  refine ⟨Int.ediv_nonneg h4 (by omega), Int.ediv_lt_of_lt_mul (by omega) ?_⟩
  have h5 : m * (n - 1) ≤ o * (n - 1) := Int.mul_le_mul_of_nonneg_right h1 (by omega)
  have h6 : n * o = o * (n - 1) + o := by rw [Int.mul_sub, Int.mul_one, Int.mul_comm n o]; omega
  omega
theorem repl0 (j : Nat) : 0 ≤ (List.replicate 64 (0 : Int)).getD j 0 ∧ (List.replicate 64 (0 : Int)).getD j 0 ≤ 0 := by
  rw [List.getD_eq_getElem?_getD, List.getElem?_replicate]; split <;> simp
theorem bktL_nil (n : List Int) (last : Int) : bktL [] n last = (n, last) := rfl
theorem bucketsF_of {xs nn : List Int} {last : Int} (h : (nn, last) = bktL xs (List.replicate 64 0) 0) : bucketsF xs = nn.take last.toNat := by rw [bucketsF, ← h]
theorem getD_mem_le {xs : List Int} {m : Int} (h : ∀ x ∈ xs, x ≤ m) {i : Nat} (hi : i < xs.length) : xs.getD i 0 ≤ m := by
  rw [List.getD_eq_getElem?_getD, List.getElem?_eq_getElem hi]; exact h _ (List.getElem_mem hi)
theorem lensF_snoc : ∀ (a : List Tok) (t : Tok), lensF (a ++ [t]) = if tokErr t = 0 ∧ t.kind ≠ 0 then lensF a ++ [t.len] else lensF a
  | [], t => by simp [lensF]
  | x :: r, t => by
    simp only [List.cons_append, lensF, lensF_snoc r t]
    split <;> split <;> simp
end Go.GL
