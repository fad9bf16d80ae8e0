/- From a walk of a law to its row: no conditions beyond those each theorem states. -/
import Derived.Test.YtplefcfekfjjbaaGX9
import Derived.WalkKit
import Derived.ProofKit
import Derived.OpenShut
import Derived.ShutString
import Derived.ChangeOld
import Derived.Below
import Derived.Carry
import Derived.SizedLaws
import Derived.Lib.SmallJoins
set_option linter.unusedVariables false
set_option linter.unusedSimpArgs false
/- From a walk to a row. -/
namespace Go.GX
open Go
theorem Ext.below {W W' : World} (h : Ext W W') : Go.RowKit.Below W.heap.size W W' := by
  refine ⟨h.os, h.tape, h.output, ?_, fun k hk => ?_⟩
  · rcases Nat.lt_or_ge W'.heap.size W.heap.size with hlt | hge
    · have := h.heap _ _ (Array.getElem?_eq_getElem hlt)
      rw [Array.getElem?_eq_none (Nat.le_refl _)] at this; cases this
    · exact hge
  · rw [h.heap k _ (Array.getElem?_eq_getElem hk), Array.getElem?_eq_getElem hk]
def IsRow (k : IntKind) (w : World) (a : Option Addr) (len cap : Nat) (zs : List Int) : Prop :=
  (a = none ∧ len = 0 ∧ cap = 0 ∧ zs = []) ∨
  ∃ x, a = some x ∧ len ≤ cap ∧ cap ≤ maxLen ∧ zs.length = cap ∧ (∀ i, i < zs.length → w.cell? (x.add i) = some (.int k (zs.getD i 0))) ∧ ∀ n ∈ zs, (Lit.int k n).wf = true
theorem IsRow.len {k : IntKind} {W : World} {A : Option Addr} {len cap : Nat} {zs : List Int} (h : IsRow k W A len cap zs) : (zs.take len).length = len ∧ len ≤ maxLen := by
  rcases h with ⟨rfl, rfl, rfl, rfl⟩ | ⟨x, rfl, h1, h2, h3, _, _⟩
  · exact ⟨rfl, Nat.zero_le _⟩
  · exact ⟨by rw [List.length_take]; omega, Nat.le_trans h1 h2⟩
theorem IsRow.wf {k : IntKind} {W : World} {A : Option Addr} {len cap : Nat} {zs : List Int} (h : IsRow k W A len cap zs) : ∀ n ∈ zs.take len, (Lit.int k n).wf = true := by
  rcases h with ⟨rfl, rfl, rfl, rfl⟩ | ⟨x, rfl, h1, h2, h3, _, h5⟩
  · intro n hn; simp at hn
  · exact fun n hn => h5 n (List.mem_of_mem_take hn)
theorem IsRow.sli {W : World} {A : Option Addr} {len cap : Nat} {zs : List Int} (h : IsRow .i64 W A len cap zs) : SlI (HS (World.asBase W) []) A len (zs.take len) := by
  have hl := h.len.1
  rcases h with ⟨rfl, rfl, rfl, rfl⟩ | ⟨x, rfl, h1, h2, h3, h4, _⟩
  · exact ⟨rfl, Or.inl rfl, fun i r hr => by simp at hr⟩
  · refine ⟨by simpa using hl, Or.inr rfl, fun i r hr j v hj => ?_⟩
    rw [List.getElem?_map] at hr
    obtain ⟨y, hy, rfl⟩ : ∃ y, (zs.take len)[i]? = some y ∧ iRow y = r := by
      cases hxi : (zs.take len)[i]? with
      | none => rw [hxi] at hr; cases hr
      | some y => rw [hxi] at hr; exact ⟨y, rfl, by simpa using hr⟩
    have hj0 : j = 0 ∧ v = .int .i64 y := by
      cases j with
      | zero => exact ⟨rfl, by simpa [iRow] using hj.symm⟩
      | succ j => simp [iRow] at hj
    obtain ⟨rfl, rfl⟩ := hj0
    have hi : i < len := by have := (List.getElem?_eq_some_iff.1 hy).1; omega
    have hc := h4 i (by omega)
    rw [List.getElem?_take_of_lt hi] at hy
    rw [List.getD_eq_getElem?_getD, hy] at hc
    show LD _ ((x.add (i * 1)).add 0) _
    rw [Nat.mul_one]
    exact ld_bc (bc_of hc)
section
variable {H : Type} {enc : TypeId × Value → H} {P : Program} {w : World} {base : Nat} {spare : Nat → Bool} {held : Bool} {t e : TypeId}
theorem isRow_of {k : IntKind} {a : Option Addr} {len cap : Nat} {d : DataW H} {p : List MemPlace} (ht : P.underlying t = some (.slice e)) (he : P.underlying e = some (.int k)) (hc : P.cellsOf e = 1)
    (h : DataW.Trod enc P w 0 (fun _ => true) held t (.slice a len cap) d p) : ∃ zs, IsRow k w a len cap zs := by
  obtain ⟨fuel, hf⟩ := h
  rcases ChangeShapes.open_ints ht he hc hf with ⟨hcs, _⟩ | ⟨x, l, c, zs, hcs, _, hl, hm, hz, _, hcell, hwz⟩
  · simp [Value.cells] at hcs
    obtain ⟨rfl, rfl, rfl⟩ := hcs
    exact ⟨[], .inl ⟨rfl, rfl, rfl, rfl⟩⟩
  · simp [Value.cells] at hcs
    obtain ⟨rfl, rfl, rfl⟩ := hcs
    exact ⟨zs, .inr ⟨_, rfl, hl, hm, by simpa using hz, hcell, hwz⟩⟩
theorem okWide_array {n : Nat} {r : Reach} {b0 : Nat} {v : Value} (ht : P.underlying t = some (.array n e)) (h : Value.okWide P w r b0 t v) : ∃ cs, v = .agg cs ∧ cs.size = P.cellsOf t := by
  simp only [Value.okWide, ht] at h
  obtain ⟨cs, h1, h2, _⟩ := h
  exact ⟨cs, h1, h2⟩
/-- an array of ints -/
theorem open_arr {n : Nat} {r : Reach} {b0 : Nat} {v : Value} {d : DataW H} {p : List MemPlace} (ht : P.underlying t = some (.array n e)) (he : P.underlying e = some (.int .i64)) (hc : P.cellsOf t = n) (hce : P.cellsOf e = 1)
    (hv : Value.okWide P w r b0 t v) (h : DataW.Trod enc P w base spare held t v d p) : ∃ xs : List Int, v = .agg (iv xs).toArray ∧ xs.length = n ∧ ∀ x ∈ xs, (Lit.int .i64 x).wf = true := by
  obtain ⟨cs, rfl, hsz⟩ := okWide_array ht hv
  obtain ⟨fuel, hf⟩ := h
  obtain ⟨ys, m, _, _, hl, hlen, hel⟩ := DataW.trod_array ht hf
  rw [hce] at hel
  have hcl : cs.toList.length = n := by rw [Array.length_toList, hsz, hc]
  have key : ∀ k, k ≤ n → ∃ xs : List Int, cs.toList.take k = iv xs ∧ xs.length = k ∧ ∀ x ∈ xs, (Lit.int .i64 x).wf = true := by
    intro k
    induction k with
    | zero => exact fun _ => ⟨[], by simp [iv], rfl, fun x hx => by simp at hx⟩
    | succ k ih =>
      intro hk
      obtain ⟨xs, h1, h2, h3⟩ := ih (by omega)
      have hlt : k < cs.toList.length := by omega
      have h4 := hel k (by omega)
      have h5 : ys[k]? = some ys[k] := List.getElem?_eq_getElem (by omega)
      rw [h5, Nat.mul_one] at h4
      obtain ⟨x, h6, _, h7⟩ := DataW.trod_int he h4
      have h8 : (cs.toList.drop k).take 1 = [cs.toList[k]] := by
        rw [List.drop_eq_getElem_cons hlt]; rfl
      have h9 : cs.toList[k] = .int .i64 x := by
        have : (cs.toList.drop k).take 1 = [Value.int .i64 x] := h6
        rw [h8] at this
        simpa using this
      refine ⟨xs ++ [x], by rw [List.take_succ_eq_append_getElem hlt, h1, h9]; simp [iv], by simp [h2], fun y hy => ?_⟩
      rcases List.mem_append.1 hy with hy | hy
      · exact h3 y hy
      · simp at hy; subst hy; exact h7
  obtain ⟨xs, h1, h2, h3⟩ := key n (Nat.le_refl _)
  rw [List.take_of_length_le (by omega)] at h1
  exact ⟨xs, by rw [← h1], h2, h3⟩
end
theorem list2 {xs : List Int} (h : xs.length = 2) : ∃ a b, xs = [a, b] := by
  match xs, h with
  | [a, b], _ => exact ⟨a, b, rfl⟩
theorem list4 {xs : List Int} (h : xs.length = 4) : ∃ a b c d, xs = [a, b, c, d] := by
  match xs, h with
  | [a, b, c, d], _ => exact ⟨a, b, c, d, rfl⟩
theorem list5 {xs : List Int} (h : xs.length = 5) : ∃ a b c d e, xs = [a, b, c, d, e] := by
  match xs, h with
  | [a, b, c, d, e], _ => exact ⟨a, b, c, d, e, rfl⟩
end Go.GX
