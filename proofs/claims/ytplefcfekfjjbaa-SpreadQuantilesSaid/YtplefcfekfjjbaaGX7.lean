/- Slices that are read, carried to a heap predicate: no conditions beyond those each theorem states. -/
import Derived.Test.YtplefcfekfjjbaaGX6
set_option linter.unusedVariables false
set_option linter.unusedSimpArgs false
namespace Go.GX
open Go
theorem SlR.toHS {C : World → Prop} {A : Option Addr} {n sz : Nat} {rows : List (List Value)} {w : World} {B : Base} (h : SlR C A n sz rows) (hw : C w) (hB : ∀ a v, w.cell? a = Option.some v → BC B a v) (l : List (Nat × Obj)) : SlR (HS B l) A n sz rows :=
  ⟨h.len, h.some, fun i r hr j v hj => ld_bc (hB _ _ (h.row i r hr j v hj w hw))⟩
theorem LD.toHS {C : World → Prop} {a : Addr} {v : Value} {w : World} {B : Base} (h : LD C a v) (hw : C w) (hB : ∀ a v, w.cell? a = some v → BC B a v) (l : List (Nat × Obj)) : LD (HS B l) a v := ld_bc (hB _ _ (h w hw))
theorem LDs.toHS {C : World → Prop} {a : Addr} {vs : List Value} {w : World} {B : Base} (h : LDs C a vs) (hw : C w) (hB : ∀ a v, w.cell? a = some v → BC B a v) (l : List (Nat × Obj)) : LDs (HS B l) a vs := fun j v hj => ld_bc (hB _ _ (h j v hj w hw))
/-- rows of ints: a slice of structs -/
abbrev SlV (C : World → Prop) (A : Option Addr) (n sz : Nat) (xs : List (List Int)) : Prop := SlR C A n sz (xs.map iv)
theorem SlV.len {C : World → Prop} {A : Option Addr} {n sz : Nat} {xs : List (List Int)} (h : SlV C A n sz xs) : xs.length = n := by simpa using SlR.len h
theorem SlV.get {C : World → Prop} {A : Option Addr} {n sz : Nat} {xs : List (List Int)} (h : SlV C A n sz xs) {i : Int} (hi : 0 ≤ i ∧ i < n) : LDs C ((adr A).add (i.toNat * sz)) (iv (xs.getD i.toNat [])) := by
  have hl := SlV.len h
  have hlt : i.toNat < xs.length := by omega
  exact h.row i.toNat _ (by rw [List.getElem?_map, List.getD_eq_getElem?_getD, List.getElem?_eq_getElem hlt]; rfl)
theorem LDs.one {C : World → Prop} {a : Addr} {xs : List Int} (h : LDs C a (iv xs)) {j : Nat} (hj : j < xs.length) : LD C (a.add j) (.int .i64 (xs.getD j 0)) :=
  h j _ (by rw [iv, List.getElem?_map, List.getD_eq_getElem?_getD, List.getElem?_eq_getElem hj]; rfl)
theorem iv_at {xs : List Int} {j : Nat} (hj : j < xs.length) : (iv xs).toArray[j]? = some (.int .i64 (xs.getD j 0)) := by
  simp [iv, hj]
section
variable {P : Program} {e : Env} {C : World → Prop} {dst : Option Tmp} {ty : TypeId} {pos : String} {aft : Array Edge} {g : Option (Nat × Bool)} {t t' : TypeId} {x y : Operand}
theorem wrap_u64 {n : Int} (h : 0 ≤ n ∧ n ≤ 18446744073709551615) : IntKind.u64.wrap n = n := by
  have : IntKind.u64.wrap n = n % 18446744073709551616 := by simp [IntKind.wrap, IntKind.bits, IntKind.signed]
  rw [this]; omega
theorem q_convu {src d : TypeId} {k : IntKind} {n : Int} {ds : TypeDesc} (hx : e.ev x = some (.int k n)) (hs : P.underlying src = some ds) (hd : P.underlying d = some (.int .u64)) (h : 0 ≤ n ∧ n ≤ 18446744073709551615) : QOp P ⟨dst, .convert src d x, ty, pos, aft, g⟩ e C (.int .u64 n) :=
  wrap_u64 h ▸ q_convw hx hs hd
end
end Go.GX
