/- One lemma for each quiet operation on whole numbers, strings and fields: no conditions beyond those each theorem states. -/
import Derived.Test.YtplefcfekfjjbaaGX2
import Derived.WalkKit
set_option linter.unusedVariables false
set_option linter.unusedSimpArgs false
namespace Go.GX
open Go
section
variable {P : Program} {e : Env} {C : World → Prop} {dst : Option Tmp} {ty : TypeId} {pos : String} {aft : Array Edge} {g : Option (Nat × Bool)}

theorem q_run {o : Oper} {v : Value} (h : ∀ a w, Ag e a → C w → (execOp a.eval o).run P w = .ok (.value v) w) : QOp P o e C v := fun a w ha hw => by
  unfold Oper.qx; rw [h a w ha hw]; exact ⟨rfl, Ext.refl w⟩

theorem q_move {x : Operand} {v : Value} (hx : e.ev x = some v) : QOp P ⟨dst, .move x, ty, pos, aft, g⟩ e C v := q_run fun a w ha _ => by
  simp [execOp, ha.ev hx]
theorem q_assign {x : Operand} {v : Value} (hx : e.ev x = some v) : QOp P ⟨dst, .assign x, ty, pos, aft, g⟩ e C v := q_run fun a w ha _ => by
  simp [execOp, ha.ev hx]
theorem q_pick_t {c x y : Operand} {v : Value} (hc : e.ev c = some (.bool true)) (hx : e.ev x = some v) : QOp P ⟨dst, .pick c x y, ty, pos, aft, g⟩ e C v := q_run fun a w ha _ => by
  simp [execOp, ha.ev hc, ha.ev hx, asBool]
theorem q_pick_f {c x y : Operand} {v : Value} (hc : e.ev c = some (.bool false)) (hy : e.ev y = some v) : QOp P ⟨dst, .pick c x y, ty, pos, aft, g⟩ e C v := q_run fun a w ha _ => by
  simp [execOp, ha.ev hc, ha.ev hy, asBool]
theorem q_pick {c x y : Operand} {b p q : Bool} (hc : e.ev c = some (.bool b)) (hx : e.ev x = some (.bool p)) (hy : e.ev y = some (.bool q)) : QOp P ⟨dst, .pick c x y, ty, pos, aft, g⟩ e C (.bool (bif b then p else q)) := q_run fun a w ha _ => by
  cases b <;> simp [execOp, ha.ev hc, ha.ev hx, ha.ev hy, asBool]

/-! whole numbers -/
def I64 (n : Int) : Prop := -9223372036854775808 ≤ n ∧ n ≤ 9223372036854775807
theorem wrap_i64 {n : Int} (h : -9223372036854775808 ≤ n ∧ n ≤ 9223372036854775807) : IntKind.i64.wrap n = n := IntWalk.i64_in n h
theorem q_bin {op : BinOp} {t t' : TypeId} {x y : Operand} {vx vy v : Value} (hx : e.ev x = some vx) (hy : e.ev y = some vy) (hg : ∀ w, (eqGuard op t x y vx vy).run P w = .ok () w)
    (h : ∀ w, (binOp op t vx vy).run P w = .ok v w) : QOp P ⟨dst, .binOp op t x y t', ty, pos, aft, g⟩ e C v := q_run fun a w ha _ => by
  simp [execOp, ha.ev hx, ha.ev hy, hg, h]
theorem eqg_int (op : BinOp) (t : TypeId) (x y : Operand) (k : IntKind) (n : Int) (v : Value) (w : World) : (eqGuard op t x y (.int k n) v).run P w = .ok () w := by
  unfold eqGuard; cases op <;> rfl
theorem eqg_str (op : BinOp) (t : TypeId) (x y : Operand) (s : ByteArray) (v : Value) (w : World) : (eqGuard op t x y (.string s) v).run P w = .ok () w := by
  unfold eqGuard; cases op <;> rfl
theorem eqg_bool (op : BinOp) (t : TypeId) (x y : Operand) (s : Bool) (v : Value) (w : World) : (eqGuard op t x y (.bool s) v).run P w = .ok () w := by
  unfold eqGuard; cases op <;> rfl
variable {t t' : TypeId} {x y : Operand}
theorem q_addw {k : IntKind} {m n : Int} (hx : e.ev x = some (.int k m)) (hy : e.ev y = some (.int k n)) : QOp P ⟨dst, .binOp .add t x y t', ty, pos, aft, g⟩ e C (.int k (k.wrap (m + n))) :=
  q_bin hx hy (eqg_int _ _ _ _ _ _ _) fun w => by simp [binOp, Op.intArith]
theorem q_subw {k : IntKind} {m n : Int} (hx : e.ev x = some (.int k m)) (hy : e.ev y = some (.int k n)) : QOp P ⟨dst, .binOp .sub t x y t', ty, pos, aft, g⟩ e C (.int k (k.wrap (m - n))) :=
  q_bin hx hy (eqg_int _ _ _ _ _ _ _) fun w => by simp [binOp, Op.intArith]
theorem q_mulw {k : IntKind} {m n : Int} (hx : e.ev x = some (.int k m)) (hy : e.ev y = some (.int k n)) : QOp P ⟨dst, .binOp .mul t x y t', ty, pos, aft, g⟩ e C (.int k (k.wrap (m * n))) :=
  q_bin hx hy (eqg_int _ _ _ _ _ _ _) fun w => by simp [binOp, Op.intArith]
theorem q_add {m n : Int} (hx : e.ev x = some (.int .i64 m)) (hy : e.ev y = some (.int .i64 n)) (h : -9223372036854775808 ≤ m + n ∧ m + n ≤ 9223372036854775807) : QOp P ⟨dst, .binOp .add t x y t', ty, pos, aft, g⟩ e C (.int .i64 (m + n)) :=
  wrap_i64 h ▸ q_addw hx hy
theorem q_sub {m n : Int} (hx : e.ev x = some (.int .i64 m)) (hy : e.ev y = some (.int .i64 n)) (h : -9223372036854775808 ≤ m - n ∧ m - n ≤ 9223372036854775807) : QOp P ⟨dst, .binOp .sub t x y t', ty, pos, aft, g⟩ e C (.int .i64 (m - n)) :=
  wrap_i64 h ▸ q_subw hx hy
theorem q_mul {m n : Int} (hx : e.ev x = some (.int .i64 m)) (hy : e.ev y = some (.int .i64 n)) (h : -9223372036854775808 ≤ m * n ∧ m * n ≤ 9223372036854775807) : QOp P ⟨dst, .binOp .mul t x y t', ty, pos, aft, g⟩ e C (.int .i64 (m * n)) :=
  wrap_i64 h ▸ q_mulw hx hy
theorem q_quo {m n : Int} (hx : e.ev x = some (.int .i64 m)) (hy : e.ev y = some (.int .i64 n)) (h0 : 0 ≤ m) (h1 : 1 ≤ n) (h : m ≤ 9223372036854775807) : QOp P ⟨dst, .binOp .quo t x y t', ty, pos, aft, g⟩ e C (.int .i64 (m / n)) :=
  q_bin hx hy (eqg_int _ _ _ _ _ _ _) fun w => by
    have h2 : n ≠ 0 := by omega
    have h3 : 0 ≤ m / n := Int.ediv_nonneg h0 (by omega)
    have h4 : m / n ≤ m := Int.ediv_le_self n h0
    simp [binOp, Op.intDiv, h2, Int.tdiv_eq_ediv_of_nonneg h0, wrap_i64 (n := m / n) (by omega)]
theorem q_rem {m n : Int} (hx : e.ev x = some (.int .i64 m)) (hy : e.ev y = some (.int .i64 n)) (h0 : 0 ≤ m) (h1 : 1 ≤ n) : QOp P ⟨dst, .binOp .rem t x y t', ty, pos, aft, g⟩ e C (.int .i64 (m % n)) :=
  q_bin hx hy (eqg_int _ _ _ _ _ _ _) fun w => by
    have h2 : n ≠ 0 := by omega
    simp [binOp, Op.intDiv, h2, Int.tmod_eq_emod_of_nonneg h0]
theorem q_quow {k : IntKind} {m n : Int} (hx : e.ev x = some (.int k m)) (hy : e.ev y = some (.int k n)) (h1 : n ≠ 0) : QOp P ⟨dst, .binOp .quo t x y t', ty, pos, aft, g⟩ e C (.int k (k.wrap (m.tdiv n))) :=
  q_bin hx hy (eqg_int _ _ _ _ _ _ _) fun w => by simp [binOp, Op.intDiv, h1]
theorem q_remw {k : IntKind} {m n : Int} (hx : e.ev x = some (.int k m)) (hy : e.ev y = some (.int k n)) (h1 : n ≠ 0) : QOp P ⟨dst, .binOp .rem t x y t', ty, pos, aft, g⟩ e C (.int k (m.tmod n)) :=
  q_bin hx hy (eqg_int _ _ _ _ _ _ _) fun w => by simp [binOp, Op.intDiv, h1]
-- comparisons
theorem q_lss {k : IntKind} {m n : Int} (hx : e.ev x = some (.int k m)) (hy : e.ev y = some (.int k n)) : QOp P ⟨dst, .binOp .lss t x y t', ty, pos, aft, g⟩ e C (.bool (decide (m < n))) :=
  q_bin hx hy (eqg_int _ _ _ _ _ _ _) fun w => by simp [binOp, Op.intCmp]
theorem q_leq {k : IntKind} {m n : Int} (hx : e.ev x = some (.int k m)) (hy : e.ev y = some (.int k n)) : QOp P ⟨dst, .binOp .leq t x y t', ty, pos, aft, g⟩ e C (.bool (decide (m ≤ n))) :=
  q_bin hx hy (eqg_int _ _ _ _ _ _ _) fun w => by simp [binOp, Op.intCmp]
theorem q_gtr {k : IntKind} {m n : Int} (hx : e.ev x = some (.int k m)) (hy : e.ev y = some (.int k n)) : QOp P ⟨dst, .binOp .gtr t x y t', ty, pos, aft, g⟩ e C (.bool (decide (n < m))) :=
  q_bin hx hy (eqg_int _ _ _ _ _ _ _) fun w => by simp [binOp, Op.intCmp]
theorem q_geq {k : IntKind} {m n : Int} (hx : e.ev x = some (.int k m)) (hy : e.ev y = some (.int k n)) : QOp P ⟨dst, .binOp .geq t x y t', ty, pos, aft, g⟩ e C (.bool (decide (n ≤ m))) :=
  q_bin hx hy (eqg_int _ _ _ _ _ _ _) fun w => by simp [binOp, Op.intCmp]
theorem q_eql {k : IntKind} {m n : Int} (hx : e.ev x = some (.int k m)) (hy : e.ev y = some (.int k n)) : QOp P ⟨dst, .binOp .eql t x y t', ty, pos, aft, g⟩ e C (.bool (decide (m = n))) :=
  q_bin hx hy (eqg_int _ _ _ _ _ _ _) fun w => by
    have : (m == n) = decide (m = n) := by by_cases h : m = n <;> simp [h]
    simp [binOp, Op.intCmp, this]
theorem q_neq {k : IntKind} {m n : Int} (hx : e.ev x = some (.int k m)) (hy : e.ev y = some (.int k n)) : QOp P ⟨dst, .binOp .neq t x y t', ty, pos, aft, g⟩ e C (.bool (decide (m ≠ n))) :=
  q_bin hx hy (eqg_int _ _ _ _ _ _ _) fun w => by
    have : (m != n) = decide (m ≠ n) := by by_cases h : m = n <;> simp [h]
    simp [binOp, Op.intCmp, this]
/-- a test whose outcome is known -/
theorem q_known {o : Oper} {b c : Bool} (h : QOp P o e C (.bool b)) (hb : b = c) : QOp P o e C (.bool c) := hb ▸ h
theorem q_as {o : Oper} {v v' : Value} (h : QOp P o e C v) (hb : v = v') : QOp P o e C v' := hb ▸ h
theorem q_not {b : Bool} (hx : e.ev x = some (.bool b)) : QOp P ⟨dst, .unOp .not t x, ty, pos, aft, g⟩ e C (.bool (!b)) := q_run fun a w ha _ => by
  simp [execOp, ha.ev hx, Op.unary]
theorem q_neg {m : Int} (hx : e.ev x = some (.int .i64 m)) (h : -9223372036854775808 < m ∧ m ≤ 9223372036854775807) : QOp P ⟨dst, .unOp .neg t x, ty, pos, aft, g⟩ e C (.int .i64 (-m)) := q_run fun a w ha _ => by
  simp [execOp, ha.ev hx, Op.unary, Op.intArith, wrap_i64 (n := -m) (by omega)]
theorem q_convw {src d : TypeId} {k k' : IntKind} {n : Int} {ds : TypeDesc} (hx : e.ev x = some (.int k n)) (hs : P.underlying src = some ds) (hd : P.underlying d = some (.int k')) : QOp P ⟨dst, .convert src d x, ty, pos, aft, g⟩ e C (.int k' (k'.wrap n)) := q_run fun a w ha _ => by
  have : (convert src d (.int k n)).run P w = .ok (.int k' (k'.wrap n)) w := by
    unfold convert; simp [run_underlying hs, run_underlying hd, Conv.intToInt]
  simp [execOp, ha.ev hx, this]
/-! strings -/
theorem q_len_str {s : ByteArray} {b : Tmp} (hx : e.lk b = some (.string s)) (ht : P.underlying t = some .string) : QOp P ⟨dst, .call ⟨.builtin .len, #[.tmp b], #[t]⟩, ty, pos, aft, g⟩ e C (.int .i64 s.size) := q_run fun a w ha _ => by
  have hx' : a.eval (.tmp b) = .string s := ha.ev (e := e) (x := .tmp b) hx
  simp [execOp, resolve, invoke, builtin, hx', Builtin.len_, run_underlying ht, goInt]
/-- byte i of a string, as a number -/
def bz (s : ByteArray) (i : Int) : Int := ((s.data.toList.getD i.toNat 0).toNat : Int)
theorem bz_bd (s : ByteArray) (i : Int) : 0 ≤ bz s i ∧ bz s i ≤ 255 := by
  unfold bz
  have := (s.data.toList.getD i.toNat 0).toNat_lt
  omega
theorem q_idx_str {s : ByteArray} {i : Int} {k : IntKind} (hx : e.ev x = some (.string s)) (hy : e.ev y = some (.int k i)) (ht : P.underlying t = some .string) (h0 : 0 ≤ i) (h1 : i < s.size) :
    QOp P ⟨dst, .index t x y, ty, pos, aft, g⟩ e C (.int .u8 (bz s i)) := q_run fun a w ha _ => by
  show _ = Result.ok (Next.value (.int .u8 ((s.data.toList.getD i.toNat 0).toNat : Int))) w
  have h2 : i.toNat < s.size := by omega
  have h3 : s[i.toNat]? = some (s[i.toNat]) := by simp [h2]
  have h4 : s[i.toNat] = s.data.toList.getD i.toNat 0 := by
    have : i.toNat < s.data.toList.length := by simpa using h2
    rw [List.getD_eq_getElem?_getD, List.getElem?_eq_getElem this]; rfl
  simp [execOp, ha.ev hx, ha.ev hy, Instr.index, asIntOf, run_underlying ht, h0, h3, h4]
/-! memory -/
def LD (C : World → Prop) (a : Addr) (v : Value) : Prop := ∀ w, C w → w.cell? a = some v
def aggD : TypeDesc → Bool
  | .struct _ | .array _ _ => true
  | _ => false
theorem run_isAgg {d : TypeDesc} (h : P.underlying t = some d) (w : World) : (isAgg t).run P w = .ok (aggD d) w := by
  unfold isAgg; rw [Sem.run_bind, run_underlying h]; cases d <;> rfl
theorem q_load {d : TypeDesc} {ad : Addr} {v : Value} (hx : e.ev x = some (.pointer (some ad))) (ht : P.underlying t = some d) (hd : aggD d = false) (h : LD C ad v) : QOp P ⟨dst, .load t x, ty, pos, aft, g⟩ e C v := q_run fun a w ha hw => by
  simp [execOp, ha.ev hx, Instr.loadAt, Instr.sureAddr, loadVar, run_isAgg ht, hd, run_load, h w hw]
theorem q_nilCheck {ad : Addr} (hx : e.ev x = some (.pointer (some ad))) : QOp P ⟨dst, .nilCheck x, ty, pos, aft, g⟩ e C (.pointer (some ad)) := q_run fun a w ha _ => by
  simp [execOp, ha.ev hx]
@[irreducible] def foffB (P : Program) (t : TypeId) (f k : Nat) : Bool :=
  match P.underlying t with
  | some (.struct fs) => match fs[f]? with
    | some fd => Nat.beq fd.offset k && match P.info? fd.type with | some i => !Nat.beq i.size 0 | none => false
    | none => false
  | _ => false
theorem q_fieldAddr {f : Nat} {ad : Addr} (k : Nat) (hx : e.ev x = some (.pointer (some ad))) (h : foffB P t f k = true) :
    QOp P ⟨dst, .fieldAddr t x f, ty, pos, aft, g⟩ e C (.pointer (some (ad.add k))) := q_run fun a w ha _ => by
  unfold foffB at h
  split at h
  · rename_i fs hfs
    split at h
    · rename_i fd hfd
      simp only [Bool.and_eq_true] at h
      obtain ⟨h1, h2⟩ := h
      have h3 : fd.offset = k := Nat.eq_of_beq_eq_true h1
      split at h2
      · rename_i i hi
        have hne : i.size ≠ 0 := fun h0 => by rw [h0] at h2; cases h2
        subst h3
        simp [execOp, ha.ev hx, Instr.fieldAt, Instr.sureAddr, fieldPlace, run_underlying hfs, hfd, sizeOf, typeInfo, hi, hne]
      · cases h2
    · cases h
  · cases h
end
end Go.GX
