/- A heap predicate for what is read and what is owned; boxes, stores, calls: no conditions beyond those each theorem states. -/
import Derived.Test.YtplefcfekfjjbaaGX3
set_option linter.unusedVariables false
set_option linter.unusedSimpArgs false
namespace Go.GX
open Go

/-! ### the heap: what is only read (B), and what is owned (l) -/
/-- what is only read, and what a call never turns -/
structure Base where
  hp : Nat → Option Obj
  os : Os
  tape : Nat → Question → Nat
  output : Array (Nat × ByteArray)
structure HS (B : Base) (l : List (Nat × Obj)) (w : World) : Prop where
  base : ∀ b o, B.hp b = some o → w.heap[b]? = some o
  own : ∀ p ∈ l, w.heap[p.1]? = some p.2
  apart : ∀ p ∈ l, B.hp p.1 = none
  nodup : (l.map (·.1)).Nodup
  env : w.os = B.os ∧ w.tape = B.tape ∧ w.output = B.output
variable {B : Base} {l : List (Nat × Obj)}
theorem HS.cl : Cl (HS B l) := fun _ _ h hx => ⟨fun b o hb => hx.heap b o (h.base b o hb), fun p hp => hx.heap _ _ (h.own p hp), h.apart, h.nodup, ⟨hx.os.trans h.env.1, hx.tape.trans h.env.2.1, hx.output.trans h.env.2.2⟩⟩
theorem HS.perm {l' : List (Nat × Obj)} {w : World} (h : HS B l w) (hp : l.Perm l') : HS B l' w :=
  ⟨h.base, fun p hm => h.own p (hp.mem_iff.2 hm), fun p hm => h.apart p (hp.mem_iff.2 hm), (hp.map _).nodup_iff.1 h.nodup, h.env⟩
theorem HS.drop {l' : List (Nat × Obj)} {w : World} (h : HS B (l' ++ l) w) : HS B l w :=
  ⟨h.base, fun p hm => h.own p (List.mem_append_right _ hm), fun p hm => h.apart p (List.mem_append_right _ hm), by
    have := h.nodup; rw [List.map_append] at this; exact (List.nodup_append.1 this).2.1, h.env⟩
theorem HS.drop1 {p : Nat × Obj} {w : World} (h : HS B (p :: l) w) : HS B l w := HS.drop (l' := [p]) h
theorem HS.left {l' : List (Nat × Obj)} {w : World} (h : HS B (l' ++ l) w) : HS B l' w := HS.drop (l' := l) (h.perm List.perm_append_comm)
def World.asBase (w : World) : Base := ⟨fun b => w.heap[b]?, w.os, w.tape, w.output⟩
theorem HS.nil (w : World) : HS (World.asBase w) [] w := ⟨fun _ _ h => h, fun _ h => (List.not_mem_nil h).elim, fun _ h => (List.not_mem_nil h).elim, List.nodup_nil, rfl, rfl, rfl⟩
theorem HS.ext {w w' : World} {l' : List (Nat × Obj)} (h : HS (World.asBase w) l' w') : Ext w w' := ⟨fun b o hb => h.base b o hb, h.env.1, h.env.2.1, h.env.2.2⟩
/-- a callee sees the rest as what is only read -/
def joinB (B : Base) (l : List (Nat × Obj)) : Base := { B with hp := fun b => match l.find? (fun p => p.1 == b) with | some p => some p.2 | none => B.hp b }
theorem find_none {l : List (Nat × Obj)} {b : Nat} (h : ∀ p ∈ l, p.1 ≠ b) : l.find? (fun p => p.1 == b) = none := List.find?_eq_none.2 fun p hp => by simpa using h p hp
theorem joinB_in {p : Nat × Obj} (hp : p ∈ l) (hn : (l.map (·.1)).Nodup) : (joinB B l).hp p.1 = some p.2 := by
  simp only [joinB]
  induction l with
  | nil => cases hp
  | cons q r ih =>
    rw [List.map_cons, List.nodup_cons] at hn
    by_cases hq : q.1 = p.1
    · have : q = p := by
        cases hp with
        | head => rfl
        | tail _ h => exact absurd (List.mem_map_of_mem (f := (·.1)) h) (hq ▸ hn.1)
      subst this; simp
    · have hpr : p ∈ r := by
        cases hp with
        | head => exact absurd rfl hq
        | tail _ h => exact h
      simp [hq]; simpa using ih hpr hn.2
theorem joinB_out {b : Nat} (h : ∀ p ∈ l, p.1 ≠ b) : (joinB B l).hp b = B.hp b := by simp only [joinB]; rw [find_none h]
theorem HS.frame {l' : List (Nat × Obj)} {w : World} (h : HS B (l ++ l') w) : HS (joinB B l') l w := by
  have hn := h.nodup
  rw [List.map_append, List.nodup_append] at hn
  refine ⟨fun b o hb => ?_, fun p hp => h.own p (List.mem_append_left _ hp), fun p hp => ?_, hn.1, h.env⟩
  · simp only [joinB] at hb
    split at hb
    · rename_i p hp
      have h1 := List.find?_some hp
      have h2 := List.mem_of_find?_eq_some hp
      cases hb
      have : p.1 = b := by simpa using h1
      rw [← this]; exact h.own p (List.mem_append_right _ h2)
    · exact h.base b o hb
  · rw [joinB_out fun q hq e => hn.2.2 p.1 (List.mem_map_of_mem hp) q.1 (List.mem_map_of_mem hq) e.symm]
    exact h.apart p (List.mem_append_left _ hp)
theorem HS.unframe {l1 l' : List (Nat × Obj)} {w w' : World} (h0 : HS B (l1 ++ l') w) (h : HS (joinB B l') l w') : HS B (l ++ l') w' := by
  have hn0 := h0.nodup
  rw [List.map_append, List.nodup_append] at hn0
  have hdis : ∀ p ∈ l, ∀ q ∈ l', p.1 ≠ q.1 := fun p hp q hq e => by
    have h1 := h.apart p hp
    rw [e, joinB_in hq hn0.2.1] at h1; cases h1
  refine ⟨fun b o hb => ?_, fun p hp => ?_, fun p hp => ?_, ?_, h.env⟩
  · refine h.base b o ?_
    rw [joinB_out]; · exact hb
    intro q hq e
    have := h0.apart q (List.mem_append_right _ hq)
    rw [e, hb] at this; cases this
  · rcases List.mem_append.1 hp with hp | hp
    · exact h.own p hp
    · exact h.base _ _ (joinB_in hp hn0.2.1)
  · rcases List.mem_append.1 hp with hp | hp
    · have h1 := h.apart p hp
      rwa [joinB_out fun q hq e => hdis p hp q hq e.symm] at h1
    · exact h0.apart p (List.mem_append_right _ hp)
  · rw [List.map_append, List.nodup_append]
    refine ⟨h.nodup, hn0.2.1, fun a ha b hb => ?_⟩
    obtain ⟨p, hp, rfl⟩ := List.mem_map.1 ha
    obtain ⟨q, hq, rfl⟩ := List.mem_map.1 hb
    exact hdis p hp q hq

/-- a cell of what is only read -/
def BC (B : Base) (a : Addr) (v : Value) : Prop := ∃ cs t fr, B.hp a.block = some (.cells cs t fr) ∧ cs[a.off]? = some v ∧ a.spot = none
theorem ld_bc {a : Addr} {v : Value} (h : BC B a v) : LD (HS B l) a v := fun w hw => by
  obtain ⟨cs, t, fr, h1, h2, h3⟩ := h
  simp [World.cell?, hw.base _ _ h1, h2, h3]
theorem bc_of {w : World} {a : Addr} {v : Value} (h : w.cell? a = some v) : BC (World.asBase w) a v := by
  unfold World.cell? at h
  split at h
  · rename_i c e f hb
    split at h
    · cases h
    · rename_i hs
      exact ⟨c, e, f, hb, h, by cases hsp : a.spot <;> simp_all⟩
  · cases h
theorem ld_own (i : Nat) {b o : Nat} {cs : Array Value} {t : TypeId} {fr : Nat × Nat} {v : Value} (hl : l[i]? = some (b, .cells cs t fr)) (hc : cs[o]? = some v) : LD (HS B l) ⟨b, o, none⟩ v := fun w hw => by
  have := hw.own _ (List.mem_of_getElem? hl)
  simp [World.cell?, this, hc]
theorem ld_mono {C C' : World → Prop} {a : Addr} {v : Value} (h : LD C a v) (hc : ∀ w, C' w → C w) : LD C' a v := fun w hw => h w (hc w hw)

section
variable {P : Program} {e : Env} {dst : Option Tmp} {ty : TypeId} {pos : String} {aft : Array Edge} {g : Option (Nat × Bool)} {t : TypeId} {x y : Operand}

/-! ### new blocks -/
theorem HS.push {w : World} (h : HS B l w) (o : Obj) : HS B ((w.heap.size, o) :: l) { w with heap := w.heap.push o } := by
  have hlt : ∀ b o', w.heap[b]? = some o' → b < w.heap.size := fun b o' hb => (Array.getElem?_eq_some_iff.1 hb).1
  have hold : ∀ b o', w.heap[b]? = some o' → (w.heap.push o)[b]? = some o' := fun b o' hb => by
    rw [Array.getElem?_push_lt (hlt b o' hb)]; rw [Array.getElem?_eq_getElem (hlt b o' hb)] at hb; exact hb
  refine ⟨fun b o' hb => hold _ _ (h.base b o' hb), fun p hp => ?_, fun p hp => ?_, ?_, h.env⟩
  · cases hp with
    | head => simp
    | tail _ hp => exact hold _ _ (h.own p hp)
  · cases hp with
    | head =>
      cases hB : B.hp w.heap.size with
      | none => rfl
      | some o' => have := hlt _ _ (h.base _ _ hB); omega
    | tail _ hp => exact h.apart p hp
  · rw [List.map_cons, List.nodup_cons]
    refine ⟨fun hm => ?_, h.nodup⟩
    obtain ⟨p, hp, he⟩ := List.mem_map.1 hm
    have := hlt _ _ (h.own p hp)
    omega
abbrev AllocP (B : Base) (l : List (Nat × Obj)) (o : Obj) : Value → World → Prop := fun u w' => ∃ b : Nat, u = .pointer (some ⟨b, 0, none⟩) ∧ True ∧ HS B ((b, o) :: l) w'
theorem e_box {v : Value} (hx : e.ev x = some v) : EOp P ⟨dst, .box t x, ty, pos, aft, g⟩ e (HS B l) (AllocP B l (.cells v.cells t (0, 0))) := fun a w ha hw => by
  unfold Oper.ex
  have : (execOp a.eval ⟨dst, .box t x, ty, pos, aft, g⟩).run P w = .ok (.value (.pointer (some ⟨w.heap.size, 0, none⟩))) { w with heap := w.heap.push (.cells v.cells t (0, 0)) } := by
    simp [execOp, ha.ev hx, Instr.box, newVar, newRow]
  rw [this]
  exact ⟨w.heap.size, rfl, trivial, hw.push _⟩
@[irreducible] def zeroOf (P : Program) (t : TypeId) : Option Value := (P.info? t).bind (·.zero)
theorem run_zero {z : Value} (h : zeroOf P t = some z) (w : World) : (zeroValue t).run P w = .ok z w := by
  unfold zeroOf at h
  cases hi : P.info? t with
  | none => rw [hi] at h; cases h
  | some i => rw [hi] at h; simp at h; simp [zeroValue, typeInfo, hi, h]
theorem e_alloc {z : Value} (hz : zeroOf P t = some z) : EOp P ⟨dst, .alloc t, ty, pos, aft, g⟩ e (HS B l) (AllocP B l (.cells z.cells t (0, 0))) := fun a w _ hw => by
  unfold Oper.ex
  have : (execOp a.eval ⟨dst, .alloc t, ty, pos, aft, g⟩).run P w = .ok (.value (.pointer (some ⟨w.heap.size, 0, none⟩))) { w with heap := w.heap.push (.cells z.cells t (0, 0)) } := by
    simp [execOp, Instr.alloc, run_zero hz, newVar, newRow]
  rw [this]
  exact ⟨w.heap.size, rfl, trivial, hw.push _⟩

/-! ### stores into what is owned -/
@[irreducible] def sizeIs (P : Program) (t : TypeId) (n : Nat) : Bool := match P.info? t with | some i => Nat.beq i.size n | none => false
theorem run_size {n : Nat} (h : sizeIs P t n = true) (w : World) : (sizeOf t).run P w = .ok n w := by
  unfold sizeIs at h
  split at h
  · rename_i i hi; have : i.size = n := Nat.eq_of_beq_eq_true h; simp [sizeOf, typeInfo, hi, this]
  · cases h
theorem HS.set {w : World} (h : HS B l w) {i b : Nat} {o o' : Obj} (hl : l[i]? = some (b, o)) : HS B (l.set i (b, o')) { w with heap := w.heap.setIfInBounds b o' } := by
  have hi : i < l.length := (List.getElem?_eq_some_iff.1 hl).1
  have hli : l[i] = (b, o) := (List.getElem?_eq_some_iff.1 hl).2
  have hmem : (b, o) ∈ l := List.mem_of_getElem? hl
  have hb := h.own _ hmem
  have hlt : b < w.heap.size := (Array.getElem?_eq_some_iff.1 hb).1
  have hmap : (l.set i (b, o')).map (·.1) = l.map (·.1) := by
    rw [List.map_set]; apply List.ext_getElem?; intro n
    rw [List.getElem?_set]; split
    · rename_i hn; subst hn; simp [hi, hli]
    · rfl
  have hkey : ∀ p ∈ l.set i (b, o'), p = (b, o') ∨ (p ∈ l ∧ p.1 ≠ b) := fun p hp => by
    obtain ⟨n, hn, he⟩ := List.mem_iff_getElem.1 hp
    rw [List.getElem_set] at he
    split at he
    · exact Or.inl he.symm
    · rename_i hne
      simp only [List.length_set] at hn
      refine Or.inr ⟨he ▸ List.getElem_mem hn, fun e => hne ?_⟩
      have h1 : (l.map (·.1))[i]'(by simpa using hi) = (l.map (·.1))[n]'(by simpa using hn) := by
        simp only [List.getElem_map, hli, he, e]
      exact (List.getElem_inj h.nodup).1 h1
  refine ⟨fun c o1 hc => ?_, fun p hp => ?_, fun p hp => ?_, by rw [hmap]; exact h.nodup, h.env⟩
  · have hne : c ≠ b := fun e => by have := h.apart _ hmem; rw [e] at hc; simp [hc] at this
    simp [Array.getElem?_setIfInBounds_ne (Ne.symm hne), h.base c o1 hc]
  · rcases hkey p hp with rfl | ⟨hp, hne⟩
    · simp [hlt]
    · simp [Array.getElem?_setIfInBounds_ne (Ne.symm hne), h.own p hp]
  · rcases hkey p hp with rfl | ⟨hp, _⟩
    · exact h.apart (b, o) hmem
    · exact h.apart _ hp
theorem setRow_eq {w : World} {b : Nat} {cs cs' : Array Value} {u : TypeId} {fr : Nat × Nat} (h : w.heap[b]? = some (.cells cs u fr)) : w.setRow b cs' = { w with heap := w.heap.setIfInBounds b (.cells cs' u fr) } := by
  have hlt : b < w.heap.size := (Array.getElem?_eq_some_iff.1 h).1
  have hv : w.heap[b] = .cells cs u fr := (Array.getElem?_eq_some_iff.1 h).2
  unfold World.setRow
  congr 1
  apply Array.ext_getElem?
  intro i
  by_cases hi : b = i
  · subst hi; rw [Array.getElem?_modify]; simp [hlt, hv]
  · simp [Array.getElem?_modify, hi, Array.getElem?_setIfInBounds_ne hi]
def allOne : List Value → Bool
  | [] => true
  | v :: r => v.oneCell' && allOne r
theorem allOne_spec : ∀ {vs : List Value}, allOne vs = true → ∀ v ∈ vs, v.oneCell' = true
  | v :: r, h, u, hu => by
    simp only [allOne, Bool.and_eq_true] at h
    cases hu with
    | head => exact h.1
    | tail _ hu => exact allOne_spec h.2 u hu
/-- the cells with others from a place on -/
def spl (cs : List Value) (o : Nat) (vs : List Value) : List Value := cs.take o ++ vs ++ cs.drop (o + vs.length)
theorem run_store_own {w : World} {b o : Nat} {cs : List Value} {u : TypeId} {v : Value} {n : Nat} (hb : w.heap[b]? = some (.cells cs.toArray u (0, 0))) (hn : sizeIs P t n = true) (hv : v.cells.toList.length = n)
    (h1 : allOne v.cells.toList = true) (ho : o + n ≤ cs.length) : (storeVar t ⟨b, o, none⟩ v).run P w = .ok () { w with heap := w.heap.setIfInBounds b (.cells (spl cs o v.cells.toList).toArray u (0, 0)) } := by
  have hst := run_storeCells_at (P := P) b o u v.cells.toList 0 cs.toArray w hb (by rw [hv]; simpa using ho) (allOne_spec h1)
  rw [setRow_eq hb] at hst
  have hsz : v.cells.size = n := by simpa using hv
  simp [storeVar, run_size hn, hsz, hst, spl]
theorem e_store (i : Nat) {b o n : Nat} {cs cs' : List Value} {u : TypeId} {v : Value} (hx : e.ev x = some (.pointer (some ⟨b, o, none⟩))) (hy : e.ev y = some v) (hl : l[i]? = some (b, .cells cs.toArray u (0, 0)))
    (hn : sizeIs P t n = true) (hv : v.cells.toList.length = n) (h1 : allOne v.cells.toList = true) (ho : Nat.ble (o + n) cs.length = true) (hr : spl cs o v.cells.toList = cs') :
    EOp P ⟨dst, .store t x y, ty, pos, aft, g⟩ e (HS B l) (fun r w' => ∃ _ : Unit, r = undef ∧ True ∧ HS B (l.set i (b, .cells cs'.toArray u (0, 0))) w') := fun a w ha hw => by
  subst hr
  unfold Oper.ex
  have hb := hw.own _ (List.mem_of_getElem? hl)
  have : (execOp a.eval ⟨dst, .store t x y, ty, pos, aft, g⟩).run P w = .ok .skip { w with heap := w.heap.setIfInBounds b (.cells (spl cs o v.cells.toList).toArray u (0, 0)) } := by
    simp [execOp, ha.ev hx, ha.ev hy, Instr.storeAt, Instr.sureAddr, run_store_own hb hn hv h1 (Nat.le_of_ble_eq_true ho)]
  rw [this]
  exact ⟨(), rfl, trivial, hw.set hl⟩

/-! ### whole structs and arrays read -/
def LDs (C : World → Prop) (a : Addr) (vs : List Value) : Prop := ∀ j v, vs[j]? = some v → LD C (a.add j) v
theorem q_loads {C : World → Prop} {d : TypeDesc} {ad : Addr} {vs : List Value} {n : Nat} (hx : e.ev x = some (.pointer (some ad))) (ht : P.underlying t = some d) (hd : aggD d = true) (hn : sizeIs P t n = true) (hv : vs.length = n) (h : LDs C ad vs) :
    QOp P ⟨dst, .load t x, ty, pos, aft, g⟩ e C (.agg vs.toArray) := q_run fun a w ha hw => by
  have hl := run_loadCells_list (P := P) (w := w) ad vs (fun j v hj => h j v hj w hw)
  rw [hv] at hl
  simp [execOp, ha.ev hx, Instr.loadAt, Instr.sureAddr, loadVar, run_isAgg ht, hd, run_size hn, hl]
theorem addr_add (b o k : Nat) : (⟨b, o, none⟩ : Addr).add k = ⟨b, o + k, none⟩ := by unfold Addr.add; split <;> simp_all
theorem lds_own (i : Nat) {b o n : Nat} {cs : List Value} {u : TypeId} {fr : Nat × Nat} {vs : List Value} (hl : l[i]? = some (b, .cells cs.toArray u fr)) (hv : (cs.drop o).take n = vs) : LDs (HS B l) ⟨b, o, none⟩ vs := fun j v hj => by
  rw [addr_add]
  refine ld_own i hl ?_
  subst hv
  rw [List.getElem?_take] at hj
  split at hj
  · simpa [List.getElem?_drop] using hj
  · cases hj

/-! ### calls -/
@[irreducible] def fnOk (P : Program) (f : FuncId) : Bool := match P.funcs[f]? with | some fn => !(fn.name == "runtime.NumGoroutine") && fn.body.isSome | none => false
theorem run_callFunc {f : FuncId} (h : fnOk P f = true) (args : Array Value) (w : World) : (callFunc f args).run P w = .ok (.enter f args) w := by
  unfold fnOk at h
  split at h
  · rename_i fn hf
    simp only [Bool.and_eq_true, Bool.not_eq_true', Option.isSome_iff_exists] at h
    obtain ⟨h1, c, hb⟩ := h
    have h2 : fn.name ≠ "runtime.NumGoroutine" := by simpa using h1
    simp [callFunc, hf, h2, hb]
  · cases h
/-- the values of a call's arguments -/
def evs (e : Env) : List Operand → Option (List Value)
  | [] => some []
  | x :: r => match e.ev x with
    | some v => match evs e r with
      | some vs => some (v :: vs)
      | none => none
    | none => none
theorem evs_map {a : Act} (ha : Ag e a) : ∀ {xs : List Operand} {vs : List Value}, evs e xs = some vs → xs.map a.eval = vs
  | [], vs, h => by simp [evs] at h; simp [h]
  | x :: r, vs, h => by
    unfold evs at h
    split at h
    · rename_i v hv
      split at h
      · rename_i vs' hvs
        cases h
        simp [ha.ev hv, evs_map ha hvs]
      · cases h
    · cases h
theorem q_call {C : World → Prop} {f : FuncId} {xs : List Operand} {ats : Array TypeId} {vs : List Value} {v : Value} (hxs : evs e xs = some vs) (hf : fnOk P f = true)
    (h : ∀ w, C w → Calls P f vs.toArray w (fun en w' => en = .returned v ∧ Ext w w')) : QOp P ⟨dst, .call ⟨.value (.func f), xs.toArray, ats⟩, ty, pos, aft, g⟩ e C v := fun a w ha hw => by
  unfold Oper.qx
  rw [execOp_call_go, run_callFunc hf]
  have : #[] ++ Array.map a.eval xs.toArray ++ #[] = vs.toArray := by simp [evs_map ha hxs]
  rw [this]
  exact ⟨Ext.refl w, h w hw⟩
theorem e_call {C : World → Prop} {f : FuncId} {xs : List Operand} {ats : Array TypeId} {vs : List Value} {next : Value → World → Prop} (hxs : evs e xs = some vs) (hf : fnOk P f = true)
    (h : ∀ w, C w → Calls P f vs.toArray w (fun en w' => ∃ v, en = .returned v ∧ next v w')) : EOp P ⟨dst, .call ⟨.value (.func f), xs.toArray, ats⟩, ty, pos, aft, g⟩ e C next := fun a w ha hw => by
  unfold Oper.ex
  rw [execOp_call_go, run_callFunc hf]
  have : #[] ++ Array.map a.eval xs.toArray ++ #[] = vs.toArray := by simp [evs_map ha hxs]
  rw [this]
  exact h w hw
/-- a function value called -/
theorem q_callv {C : World → Prop} {k : Tmp} {f : FuncId} {cap : List Value} {xs : List Operand} {ats : Array TypeId} {vs : List Value} {v : Value} (hk : e.lk k = some (.func (.func f) #[] cap.toArray)) (hxs : evs e xs = some vs) (hf : fnOk P f = true)
    (h : ∀ w, C w → Calls P f (vs ++ cap).toArray w (fun en w' => en = .returned v ∧ Ext w w')) : QOp P ⟨dst, .call ⟨.value (.tmp k), xs.toArray, ats⟩, ty, pos, aft, g⟩ e C v := fun a w ha hw => by
  unfold Oper.qx
  have hk' : a.eval (.tmp k) = .func (.func f) #[] cap.toArray := ha.ev (e := e) (x := .tmp k) hk
  have : (execOp a.eval ⟨dst, .call ⟨.value (.tmp k), xs.toArray, ats⟩, ty, pos, aft, g⟩).run P w = .ok (.enter f (vs ++ cap).toArray) w := by
    simp [execOp, resolve, hk', Deferred.ofValue, invoke, evs_map ha hxs, run_callFunc hf]
  rw [this]
  exact ⟨Ext.refl w, h w hw⟩
theorem e_callv {C : World → Prop} {k : Tmp} {f : FuncId} {cap : List Value} {xs : List Operand} {ats : Array TypeId} {vs : List Value} {next : Value → World → Prop} (hk : e.lk k = some (.func (.func f) #[] cap.toArray)) (hxs : evs e xs = some vs) (hf : fnOk P f = true)
    (h : ∀ w, C w → Calls P f (vs ++ cap).toArray w (fun en w' => ∃ v, en = .returned v ∧ next v w')) : EOp P ⟨dst, .call ⟨.value (.tmp k), xs.toArray, ats⟩, ty, pos, aft, g⟩ e C next := fun a w ha hw => by
  unfold Oper.ex
  have hk' : a.eval (.tmp k) = .func (.func f) #[] cap.toArray := ha.ev (e := e) (x := .tmp k) hk
  have : (execOp a.eval ⟨dst, .call ⟨.value (.tmp k), xs.toArray, ats⟩, ty, pos, aft, g⟩).run P w = .ok (.enter f (vs ++ cap).toArray) w := by
    simp [execOp, resolve, hk', Deferred.ofValue, invoke, evs_map ha hxs, run_callFunc hf]
  rw [this]
  exact h w hw
end
end Go.GX
