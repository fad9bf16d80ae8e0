/- Tokens in slices: no conditions beyond those each theorem states. -/
import Derived.Test.YtplefcfekfjjbaaGX8
import Derived.Test.YtplefcfekfjjbaaGL2
namespace Go.GX
open Go Go.GL
set_option linter.unusedVariables false
set_option linter.unusedSimpArgs false
/-! ### tokens in slices -/
def zTok : Tok := ⟨0, 0, 0, 0, 0⟩
def tokAt (ts : List Tok) (i : Int) : Tok := ts.getD i.toNat zTok
abbrev SlT (C : World → Prop) (A : Option Addr) (n : Nat) (ts : List Tok) : Prop := SlV C A n 5 (ts.map Tok.l)
theorem SlT.len {C : World → Prop} {A : Option Addr} {n : Nat} {ts : List Tok} (h : SlT C A n ts) : ts.length = n := by simpa using SlV.len h
theorem SlT.get {C : World → Prop} {A : Option Addr} {n : Nat} {ts : List Tok} (h : SlT C A n ts) {i : Int} (hi : 0 ≤ i ∧ i < n) : LDs C ((adr A).add (i.toNat * 5)) (iv (tokAt ts i).l) := by
  have hl := SlT.len h
  have h1 := SlV.get h hi
  have hlt : i.toNat < ts.length := by omega
  have : (ts.map Tok.l).getD i.toNat [] = (tokAt ts i).l := by
    simp [tokAt, List.getD_eq_getElem?_getD, hlt]
  rwa [this] at h1
theorem tokAt_drop {ts : List Tok} {i : Int} (h0 : 0 ≤ i) (h : i < ts.length) : ts.drop i.toNat = tokAt ts i :: ts.drop (i + 1).toNat := by
  have hlt : i.toNat < ts.length := by omega
  rw [List.drop_eq_getElem_cons hlt, tokAt, List.getD_eq_getElem?_getD, List.getElem?_eq_getElem hlt, show (i + 1).toNat = i.toNat + 1 from by omega]; rfl
theorem spl_set {L : List Int} {o : Nat} {v : Int} (h : o < L.length) : spl (iv L) o [.int .i64 v] = iv (L.set o v) := by
  apply List.ext_getElem?
  intro i
  simp only [spl, iv, ← List.map_take, ← List.map_drop, List.length_singleton]
  rw [List.getElem?_append, List.getElem?_append]
  simp only [List.length_append, List.length_map, List.length_take, List.length_singleton, List.getElem?_map, List.getElem?_take, List.getElem?_drop, List.getElem?_set]
  have hm : min o L.length = o := by omega
  rw [hm]
  by_cases h1 : i < o
  · simp [h1, show i < o + 1 from by omega, show ¬ o = i from by omega]
  · by_cases h2 : i = o
    · subst h2; simp [h]
    · simp [h1, show ¬ i < o + 1 from by omega, show ¬ o = i from fun e => h2 e.symm, show o + 1 + (i - (o + 1)) = i from by omega]
/-- the loop of the reference's Use -/
def r17L (r : List Int) (rep : Int) : Nat → Int → Int → List Int → List Int
  | 0, _, _, L => L
  | k + 1, i, a, L => if i ≠ rep then r17L r rep k (i + 1) (a + 1) (L.set a.toNat (r.getD i.toNat 0)) else r17L r rep k (i + 1) a L
theorem r17L_ahead (r0 r1 r2 r3 d rep : Int) (h : 0 ≤ rep ∧ rep ≤ 3) : r17L [r0, r1, r2, r3] rep 4 0 1 [d, 0, 0, 0] = aheadL [r0, r1, r2, r3] d rep.toNat := by
  obtain rfl | rfl | rfl | rfl : rep = 0 ∨ rep = 1 ∨ rep = 2 ∨ rep = 3 := by omega
  all_goals rfl
theorem ble_of {a b : Nat} (h : a ≤ b) : Nat.ble a b = true := Nat.ble_eq ▸ h
theorem tokTake {ts : List Tok} {i : Int} (h0 : 0 ≤ i) (h : i < ts.length) : ts.take (i + 1).toNat = ts.take i.toNat ++ [tokAt ts i] := by
  have hlt : i.toNat < ts.length := by omega
  rw [show (i + 1).toNat = i.toNat + 1 from by omega, List.take_succ_eq_append_getElem hlt]
  simp [tokAt, hlt]
theorem LDs.mono {C C' : World → Prop} {a : Addr} {vs : List Value} (h : LDs C a vs) (hc : ∀ w, C' w → C w) : LDs C' a vs := fun j v hj => ld_mono (h j v hj) hc
end Go.GX
