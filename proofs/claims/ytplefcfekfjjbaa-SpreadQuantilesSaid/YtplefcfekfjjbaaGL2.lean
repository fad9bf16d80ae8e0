/- What tokens, prices and distances come to, as plain functions: no conditions. -/
import Derived.Test.YtplefcfekfjjbaaGL1
/- Tokens and the last four distances, as plain data. -/
namespace Go.GL
structure Tok where
  kind : Int
  byte : Int
  len : Int
  dist : Int
  rep : Int
  deriving DecidableEq
def Tok.l (t : Tok) : List Int := [t.kind, t.byte, t.len, t.dist, t.rep]
def tokOk (t : Tok) : Prop :=
  (t.kind = 0 ∧ 0 ≤ t.byte ∧ t.byte ≤ 255 ∧ t.len = 0 ∧ t.dist = 0 ∧ t.rep = 0) ∨
  (t.kind = 1 ∧ 1 ≤ t.dist ∧ t.dist ≤ 67108864 ∧ 2 ≤ t.len ∧ t.len ≤ 258 ∧ t.byte = 0 ∧ t.rep = 0) ∨
  (t.kind = 2 ∧ 0 ≤ t.rep ∧ t.rep ≤ 3 ∧ 2 ≤ t.len ∧ t.len ≤ 258 ∧ t.byte = 0 ∧ t.dist = 0)
instance (t : Tok) : Decidable (tokOk t) := by unfold tokOk; infer_instance
/-- all but the length -/
def tokPart (t : Tok) : Prop :=
  (t.kind = 0 ∧ 0 ≤ t.byte ∧ t.byte ≤ 255 ∧ t.len = 0 ∧ t.dist = 0 ∧ t.rep = 0) ∨
  (t.kind = 1 ∧ 1 ≤ t.dist ∧ t.dist ≤ 67108864 ∧ t.byte = 0 ∧ t.rep = 0) ∨
  (t.kind = 2 ∧ 0 ≤ t.rep ∧ t.rep ≤ 3 ∧ t.byte = 0 ∧ t.dist = 0)
def tokErr (t : Tok) : Int := if tokOk t then 0 else 10
def tokSize (t : Tok) : Int := if tokOk t then (if t.kind = 0 then 1 else t.len) else 0
def tokSym (t : Tok) : Int × Int := if tokOk t then (if t.kind = 0 then (t.byte, 0) else if t.kind = 2 then ((t.rep + 1) * 29 + (256 + (slotsLen t.len).1), 0) else (256 + (slotsLen t.len).1, 0)) else (0, 10)
/-- the distances with another one ahead, in place of the one at a place -/
def aheadL (r : List Int) (d : Int) (at_ : Nat) : List Int := d :: (r.take at_ ++ r.drop (at_ + 1))
def useF (r : List Int) (t : Tok) : List Int × Int × Int :=
  if tokOk t then
    if t.kind = 1 then (aheadL r t.dist 3, t.dist, 0)
    else if t.kind = 2 then
      (if r.getD t.rep.toNat 0 < 1 ∨ 67108864 < r.getD t.rep.toNat 0 then ([0, 0, 0, 0], 0, 10) else (aheadL r (r.getD t.rep.toNat 0) t.rep.toNat, r.getD t.rep.toNat 0, 0))
    else (r, 0, 0)
  else ([0, 0, 0, 0], 0, 10)
theorem aheadL_len {r : List Int} {d : Int} {k : Nat} (h : r.length = 4) (hk : k ≤ 3) : (aheadL r d k).length = 4 := by
  simp [aheadL, h]; omega
theorem useF_len {r : List Int} {t : Tok} (h : r.length = 4) : (useF r t).1.length = 4 := by
  unfold useF
  split
  · rename_i ht
    split
    · exact aheadL_len h (by omega)
    · split
      · split
        · rfl
        · refine aheadL_len h ?_
          unfold tokOk at ht; omega
      · exact h
  · rfl
end Go.GL
namespace Go.GL
/-- what a token costs; the error -/
def tokCost (main dist : List Int) (t : Tok) : Int :=
  main.getD (tokSym t).1.toNat 0 + (if t.kind = 0 then 0 else (slotsLen t.len).2.1) + (if t.kind = 1 then dist.getD (slotsDist t.dist).1.toNat 0 + (slotsDist t.dist).2.1 else 0)
def refTok (main dist : List Int) (t : Tok) : Int × Int := if pErr main dist ≠ 0 then (0, pErr main dist) else if tokOk t then (tokCost main dist t, 0) else (0, 10)
def costAll (main dist : List Int) : List Tok → Int → Int × Int
  | [], n => (n, 0)
  | t :: r, n => if (refTok main dist t).2 ≠ 0 then (0, (refTok main dist t).2) else costAll main dist r (n + (refTok main dist t).1)
def refAll (main dist : List Int) (ts : List Tok) : Int × Int := if pErr main dist ≠ 0 then (0, pErr main dist) else costAll main dist ts 0
theorem slotsLen_b (n : Int) : 0 ≤ (slotsLen n).2.1 ∧ (slotsLen n).2.1 ≤ 24 ∧ (slotsLen n).1 ≤ 28 := by
  unfold slotsLen
  split
  · simp
  · rename_i h
    have key : ∀ m : Nat, m < 29 → base lenBits 2 m ≤ n → n < base lenBits 2 (m + 1) → 0 ≤ (find lenBits n 2 29).2.1 ∧ (find lenBits n 2 29).2.1 ≤ 24 ∧ (find lenBits n 2 29).1 ≤ 28 := fun m hm h0 h1 => by
      rw [show (29 : Int) = ((29 : Nat) : Int) from rfl, find_at (by omega) lenBits_bd hm h0 h1]
      have := lenBits_bd m (by omega)
      simp only; omega
    have ex : ∀ k : Nat, k ≤ 29 → n < base lenBits 2 k → ∃ m, m < k ∧ base lenBits 2 m ≤ n ∧ n < base lenBits 2 (m + 1) := by
      intro k
      induction k with
      | zero => intro _ hk; simp [base] at hk; omega
      | succ k ih =>
        intro hk hn
        by_cases hb : base lenBits 2 k ≤ n
        · exact ⟨k, by omega, hb, hn⟩
        · obtain ⟨m, h1, h2, h3⟩ := ih (by omega) (by omega)
          exact ⟨m, by omega, h2, h3⟩
    obtain ⟨m, h1, h2, h3⟩ := ex 29 (by omega) (by rw [base_len]; omega)
    exact key m h1 h2 h3
theorem slotsDist_b (n : Int) : 0 ≤ (slotsDist n).2.1 ∧ (slotsDist n).2.1 ≤ 24 ∧ 0 ≤ (slotsDist n).1 ∧ (slotsDist n).1 ≤ 51 := by
  unfold slotsDist
  split
  · simp
  · rename_i h
    have key : ∀ m : Nat, m < 52 → base distBits 1 m ≤ n → n < base distBits 1 (m + 1) → 0 ≤ (find distBits n 1 52).2.1 ∧ (find distBits n 1 52).2.1 ≤ 24 ∧ 0 ≤ (find distBits n 1 52).1 ∧ (find distBits n 1 52).1 ≤ 51 := fun m hm h0 h1 => by
      rw [show (52 : Int) = ((52 : Nat) : Int) from rfl, find_at (by omega) distBits_bd hm h0 h1]
      have := distBits_bd m (by omega)
      simp only; omega
    have ex : ∀ k : Nat, k ≤ 52 → n < base distBits 1 k → ∃ m, m < k ∧ base distBits 1 m ≤ n ∧ n < base distBits 1 (m + 1) := by
      intro k
      induction k with
      | zero => intro _ hk; simp [base] at hk; omega
      | succ k ih =>
        intro hk hn
        by_cases hb : base distBits 1 k ≤ n
        · exact ⟨k, by omega, hb, hn⟩
        · obtain ⟨m, h1, h2, h3⟩ := ih (by omega) (by omega)
          exact ⟨m, by omega, h2, h3⟩
    obtain ⟨m, h1, h2, h3⟩ := ex 52 (by omega) (by rw [base_dist]; omega)
    exact key m h1 h2 h3
theorem tokSym_bd {t : Tok} (h : tokOk t) : 0 ≤ (tokSym t).1 ∧ (tokSym t).1 ≤ 400 := by
  have h1 := slotsLen_b t.len
  have h2 := slotsLen_bd t.len
  unfold tokSym; rw [if_pos h]
  unfold tokOk at h
  split
  · simp only; omega
  · split <;> (simp only; omega)
theorem fine_get {xs : List Int} (h : fineB xs = true) (i : Nat) : 0 ≤ xs.getD i 0 ∧ xs.getD i 0 ≤ 1048576 := by
  rw [List.getD_eq_getElem?_getD]
  cases hi : xs[i]? with
  | none => simp
  | some v =>
    have hm := List.mem_of_getElem? hi
    have := List.all_eq_true.1 h v hm
    simp only [decide_eq_true_eq] at this
    simp only [Option.getD_some]; omega
theorem pErr_fine {main dist : List Int} (h : pErr main dist = 0) : main.length = 401 ∧ dist.length = 52 ∧ fineB main = true ∧ fineB dist = true := by
  unfold pErr at h
  split at h
  · cases h
  · split at h
    · rename_i h1 h2; simp only [not_or, Decidable.not_not] at h1; exact ⟨h1.1, h1.2, h2.1, h2.2⟩
    · cases h
theorem tokCost_bd {main dist : List Int} {t : Tok} (hp : pErr main dist = 0) : 0 ≤ tokCost main dist t ∧ tokCost main dist t ≤ 2097200 := by
  obtain ⟨_, _, h3, h4⟩ := pErr_fine hp
  have a1 := fine_get h3 (tokSym t).1.toNat
  have a2 := fine_get h4 (slotsDist t.dist).1.toNat
  have a3 := slotsLen_b t.len
  have a4 := slotsDist_b t.dist
  unfold tokCost
  split <;> split <;> omega
end Go.GL
