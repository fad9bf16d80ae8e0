/- Slices and strings that are read; functions that change nothing: no conditions beyond those each theorem states. -/
import Derived.Test.YtplefcfekfjjbaaGX4
set_option linter.unusedVariables false
set_option linter.unusedSimpArgs false
namespace Go.GX
open Go
section
variable {P : Program} {e : Env} {C : World → Prop} {dst : Option Tmp} {ty : TypeId} {pos : String} {aft : Array Edge} {g : Option (Nat × Bool)} {t t' : TypeId} {x y : Operand}
theorem q_extract {i : Nat} {vs : Array Value} {v : Value} (hx : e.ev x = some (.tuple vs)) (h : vs[i]? = some v) : QOp P ⟨dst, .extract x i, ty, pos, aft, g⟩ e C v := q_run fun a w ha _ => by
  simp [execOp, ha.ev hx, Instr.extract, h]
theorem q_len_slice {b : Tmp} {A : Option Addr} {n c : Nat} {el : TypeId} (hx : e.lk b = some (.slice A n c)) (ht : P.underlying t = some (.slice el)) : QOp P ⟨dst, .call ⟨.builtin .len, #[.tmp b], #[t]⟩, ty, pos, aft, g⟩ e C (.int .i64 n) := q_run fun a w ha _ => by
  have hx' : a.eval (.tmp b) = .slice A n c := ha.ev (e := e) (x := .tmp b) hx
  simp [execOp, resolve, invoke, builtin, hx', Builtin.len_, run_underlying ht, goInt]
theorem q_min2 {k : IntKind} {m n : Int} {ats : Array TypeId} (hx : e.ev x = some (.int k m)) (hy : e.ev y = some (.int k n)) : QOp P ⟨dst, .call ⟨.builtin .min, #[x, y], ats⟩, ty, pos, aft, g⟩ e C (.int k (min m n)) := q_run fun a w ha _ => by
  have : (if n < m then n else m) = min m n := by omega
  simp [execOp, resolve, invoke, builtin, ha.ev hx, ha.ev hy, Builtin.min_, Builtin.min2, this]
theorem q_max2 {k : IntKind} {m n : Int} {ats : Array TypeId} (hx : e.ev x = some (.int k m)) (hy : e.ev y = some (.int k n)) : QOp P ⟨dst, .call ⟨.builtin .max, #[x, y], ats⟩, ty, pos, aft, g⟩ e C (.int k (max m n)) := q_run fun a w ha _ => by
  have : (if n > m then n else m) = max m n := by omega
  simp [execOp, resolve, invoke, builtin, ha.ev hx, ha.ev hy, Builtin.max_, Builtin.max2, this]
theorem q_min3 {k : IntKind} {m n r : Int} {z : Operand} {ats : Array TypeId} (hx : e.ev x = some (.int k m)) (hy : e.ev y = some (.int k n)) (hz : e.ev z = some (.int k r)) : QOp P ⟨dst, .call ⟨.builtin .min, #[x, y, z], ats⟩, ty, pos, aft, g⟩ e C (.int k (min (min m n) r)) := q_run fun a w ha _ => by
  have h1 : (if n < m then n else m) = min m n := by omega
  have h2 : (if r < min m n then r else min m n) = min (min m n) r := by omega
  simp [execOp, resolve, invoke, builtin, ha.ev hx, ha.ev hy, ha.ev hz, Builtin.min_, Builtin.min2, h1, h2]
/-- the address of an element of a slice -/
theorem q_idxS {A : Addr} {n c sz : Nat} {i : Int} {k : IntKind} {el : TypeId} (hx : e.ev x = some (.slice (some A) n c)) (hy : e.ev y = some (.int k i)) (ht : P.underlying t = some (.slice el)) (hz : sizeIs P el sz = true) (h : 0 ≤ i ∧ i < (n : Int)) :
    QOp P ⟨dst, .indexAddr t x y, ty, pos, aft, g⟩ e C (.pointer (some (A.add (i.toNat * sz)))) := q_run fun a w ha _ => by
  simp [execOp, ha.ev hx, ha.ev hy, Instr.indexAt, asIntOf, run_underlying ht, h.1, h.2, run_size hz]
/-- of an array behind a pointer -/
theorem q_idxA {A : Addr} {n sz : Nat} {i : Int} {k : IntKind} {el : TypeId} (hx : e.ev x = some (.pointer (some A))) (hy : e.ev y = some (.int k i)) (ht : P.underlying t = some (.array n el)) (hz : sizeIs P el sz = true) (h : 0 ≤ i ∧ i < (n : Int)) :
    QOp P ⟨dst, .indexAddr t x y, ty, pos, aft, g⟩ e C (.pointer (some (A.add (i.toNat * sz)))) := q_run fun a w ha _ => by
  simp [execOp, ha.ev hx, ha.ev hy, Instr.indexAt, Instr.sureAddr, asIntOf, run_underlying ht, h.1, h.2, run_size hz]
/-- strings -/
theorem q_slice_str {s : ByteArray} {lo hi : Int} {k k' : IntKind} {z : Operand} (hx : e.ev x = some (.string s)) (ht : P.underlying t = some .string) (hl : e.ev y = some (.int k lo)) (hh : e.ev z = some (.int k' hi)) (h : 0 ≤ lo ∧ lo ≤ hi ∧ hi ≤ s.size) :
    QOp P ⟨dst, .slice t x (some y) (some z) none, ty, pos, aft, g⟩ e C (.string (s.extract lo.toNat hi.toNat)) := q_run fun a w ha _ => by
  have h1 : 0 ≤ hi := by omega
  have h2 : lo ≤ ((hi.toNat : Nat) : Int) := by omega
  have h3 : lo ≤ max hi 0 := by omega
  simp [execOp, ha.ev hx, ha.ev hl, ha.ev hh, Instr.sliceAt, Instr.slice, run_underlying ht, Instr.sliceBounds, Instr.sliceBound, asIntOf, h.1, h.2.2, h1, h3]
theorem q_slice_str_lo {s : ByteArray} {lo : Int} {k : IntKind} (hx : e.ev x = some (.string s)) (ht : P.underlying t = some .string) (hl : e.ev y = some (.int k lo)) (h : 0 ≤ lo ∧ lo ≤ s.size) :
    QOp P ⟨dst, .slice t x (some y) none none, ty, pos, aft, g⟩ e C (.string (s.extract lo.toNat s.size)) := q_run fun a w ha _ => by
  simp [execOp, ha.ev hx, ha.ev hl, Instr.sliceAt, Instr.slice, run_underlying ht, Instr.sliceBounds, Instr.sliceBound, asIntOf, h.1, h.2]
theorem q_slice_str_hi {s : ByteArray} {hi : Int} {k : IntKind} {z : Operand} (hx : e.ev x = some (.string s)) (ht : P.underlying t = some .string) (hh : e.ev z = some (.int k hi)) (h : 0 ≤ hi ∧ hi ≤ s.size) :
    QOp P ⟨dst, .slice t x none (some z) none, ty, pos, aft, g⟩ e C (.string (s.extract 0 hi.toNat)) := q_run fun a w ha _ => by
  simp [execOp, ha.ev hx, ha.ev hh, Instr.sliceAt, Instr.slice, run_underlying ht, Instr.sliceBounds, Instr.sliceBound, asIntOf, h.1, h.2]
theorem q_adds {s u : ByteArray} (hx : e.ev x = some (.string s)) (hy : e.ev y = some (.string u)) (h : s.size + u.size ≤ 9223372036854775807) : QOp P ⟨dst, .binOp .add t x y t', ty, pos, aft, g⟩ e C (.string (s ++ u)) :=
  q_bin hx hy (eqg_str _ _ _ _ _ _) fun w => by
    have h1 := run_string_add_sum (P := P) (w := w) s u h
    simp [binOp, h1]
theorem toList_beq (s u : ByteArray) : (s.toList == u.toList) = decide (s = u) := by
  by_cases h : s = u
  · simp [h]
  · have : s.toList ≠ u.toList := fun he => h (by
      rw [ByteArray.toList_eq, ByteArray.toList_eq] at he
      exact WideShapes.bytes_inj he)
    simp [h, this]
theorem q_eqs {s u : ByteArray} (hx : e.ev x = some (.string s)) (hy : e.ev y = some (.string u)) : QOp P ⟨dst, .binOp .eql t x y t', ty, pos, aft, g⟩ e C (.bool (decide (s = u))) :=
  q_bin hx hy (eqg_str _ _ _ _ _ _) fun w => by simp [binOp, Op.stringOp, toList_beq]
theorem q_nes {s u : ByteArray} (hx : e.ev x = some (.string s)) (hy : e.ev y = some (.string u)) : QOp P ⟨dst, .binOp .neq t x y t', ty, pos, aft, g⟩ e C (.bool (decide (s ≠ u))) :=
  q_bin hx hy (eqg_str _ _ _ _ _ _) fun w => by simp [binOp, Op.stringOp, toList_beq]
theorem q_conv64 {src d : TypeId} {k : IntKind} {n : Int} {ds : TypeDesc} (hx : e.ev x = some (.int k n)) (hs : P.underlying src = some ds) (hd : P.underlying d = some (.int .i64)) (h : -9223372036854775808 ≤ n ∧ n ≤ 9223372036854775807) : QOp P ⟨dst, .convert src d x, ty, pos, aft, g⟩ e C (.int .i64 n) :=
  wrap_i64 h ▸ q_convw hx hs hd
theorem q_shl {k : IntKind} {m n : Int} (hx : e.ev x = some (.int .i64 m)) (hy : e.ev y = some (.int k n)) (h0 : 0 ≤ n ∧ n ≤ 64) (h : -9223372036854775808 ≤ m * 2 ^ n.toNat ∧ m * 2 ^ n.toNat ≤ 9223372036854775807) : QOp P ⟨dst, .binOp .shl t x y t', ty, pos, aft, g⟩ e C (.int .i64 (m * 2 ^ n.toNat)) :=
  q_bin hx hy (eqg_int _ _ _ _ _ _ _) fun w => by
    have h1 : ¬ n < 0 := by omega
    have h2 : min n.toNat IntKind.i64.bits = n.toNat := by
      have : IntKind.i64.bits = 64 := rfl
      omega
    simp only [binOp, Op.shift, h1, if_false, h2, wrap_i64 h]; rfl
end
/-! ### a function that only reads -/
theorem ret_i {k : IntKind} {a b : Int} (h : a = b) : Ending.returned (.int k a) = .returned (.int k b) := by rw [h]
theorem ret_b {a b : Bool} (h : a = b) : Ending.returned (.bool a) = .returned (.bool b) := by rw [h]
theorem ret_v {a b : Value} (h : a = b) : Ending.returned a = .returned b := by rw [h]
theorem calls_q {P : Program} {N : Nat} {f : FuncId} {fn : Func} {c : Code} {args : List Value} {w : World} {v : Value} (hf : P.funcs[f]? = some fn) (hb : fn.body = some c) (hN : fn.ntmps = N) (hle : Nat.ble args.length N = true)
    (h : ∀ B : Base, (∀ a v, w.cell? a = some v → BC B a v) → CT P N (argEnv 0 args) (HS B []) c (bodyPost P fn (fun en w' => en = .returned v ∧ ∃ l, HS B l w'))) :
    Calls P f args.toArray w (fun en w' => en = .returned v ∧ Ext w w') :=
  (calls_ct (R := fun en w' => en = .returned v ∧ ∃ l, HS (World.asBase w) l w') hf hb hN hle HS.cl (HS.nil w) (h (World.asBase w) fun _ _ h => bc_of h)).mono fun _ _ ⟨he, _, hl⟩ => ⟨he, hl.ext⟩
theorem Ext.cl (w : World) : Cl (Ext w) := fun _ _ h h' => h.trans h'
/-- without a cell of its own -/
theorem calls_p {P : Program} {N : Nat} {f : FuncId} {fn : Func} {c : Code} {args : List Value} {w : World} {v : Value} {C : World → Prop} (hC : Cl C) (hw : C w) (hf : P.funcs[f]? = some fn) (hb : fn.body = some c) (hN : fn.ntmps = N) (hle : Nat.ble args.length N = true)
    (h : CT P N (argEnv 0 args) (fun w' => C w' ∧ Ext w w') c (bodyPost P fn (fun en w' => en = .returned v ∧ C w' ∧ Ext w w'))) : Calls P f args.toArray w (fun en w' => en = .returned v ∧ Ext w w') :=
  (calls_ct (C := fun w' => C w' ∧ Ext w w') hf hb hN hle (fun _ _ ⟨h1, h2⟩ hx => ⟨hC _ _ h1 hx, h2.trans hx⟩) ⟨hw, Ext.refl w⟩ h).mono fun _ _ ⟨he, _, hx⟩ => ⟨he, hx⟩
/-! ### slices that are read: rows of so many cells -/
def adr (A : Option Addr) : Addr := A.getD ⟨0, 0, none⟩
structure SlR (C : World → Prop) (A : Option Addr) (n sz : Nat) (rows : List (List Value)) : Prop where
  len : rows.length = n
  some : n = 0 ∨ A.isSome = true
  row : ∀ i r, rows[i]? = Option.some r → LDs C ((adr A).add (i * sz)) r
theorem SlR.mono {C C' : World → Prop} {A : Option Addr} {n sz : Nat} {rows : List (List Value)} (h : SlR C A n sz rows) (hc : ∀ w, C' w → C w) : SlR C' A n sz rows :=
  ⟨h.len, h.some, fun i r hr j v hj => ld_mono (h.row i r hr j v hj) hc⟩
theorem add_zero (a : Addr) : a.add 0 = a := rfl
def iRow (x : Int) : List Value := [.int .i64 x]
abbrev SlI (C : World → Prop) (A : Option Addr) (n : Nat) (xs : List Int) : Prop := SlR C A n 1 (xs.map iRow)
theorem SlI.len {C : World → Prop} {A : Option Addr} {n : Nat} {xs : List Int} (h : SlI C A n xs) : xs.length = n := by simpa using SlR.len h
theorem SlI.get {C : World → Prop} {A : Option Addr} {n : Nat} {xs : List Int} (h : SlI C A n xs) {i : Int} (hi : 0 ≤ i ∧ i < n) : LD C ((adr A).add (i.toNat * 1)) (.int .i64 (xs.getD i.toNat 0)) := by
  have hl := SlI.len h
  have hlt : i.toNat < xs.length := by omega
  have := h.row i.toNat (iRow (xs.getD i.toNat 0)) (by rw [List.getElem?_map, List.getD_eq_getElem?_getD, List.getElem?_eq_getElem hlt]; rfl) 0 _ rfl
  rwa [add_zero] at this
section
variable {P : Program} {e : Env} {C : World → Prop} {dst : Option Tmp} {ty : TypeId} {pos : String} {aft : Array Edge} {g : Option (Nat × Bool)} {t : TypeId} {x y : Operand}
theorem q_idx {A : Option Addr} {n c sz : Nat} {i : Int} {k : IntKind} {el : TypeId} (hx : e.ev x = some (.slice A n c)) (hy : e.ev y = some (.int k i)) (ht : P.underlying t = some (.slice el)) (hz : sizeIs P el sz = true) (hA : n = 0 ∨ A.isSome = true) (h : 0 ≤ i ∧ i < (n : Int)) :
    QOp P ⟨dst, .indexAddr t x y, ty, pos, aft, g⟩ e C (.pointer (some ((adr A).add (i.toNat * sz)))) := by
  cases A with
  | none => simp at hA; omega
  | some a => exact q_idxS hx hy ht hz h
end
end Go.GX
