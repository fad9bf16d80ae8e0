/- Heap extensions; a region that draws its order, run through by a script of its effects: no conditions beyond those each theorem states. -/
import Derived.Orders
import Derived.Tactics
import Derived.KernelRfl
set_option linter.unusedVariables false
set_option linter.unusedSimpArgs false
namespace Go.GX
open Go

/-! ### worlds: more blocks, nothing that existed has changed -/
structure Ext (w w' : World) : Prop where
  heap : ∀ (b : Nat) (o : Obj), w.heap[b]? = some o → w'.heap[b]? = some o
  os : w'.os = w.os
  tape : w'.tape = w.tape
  output : w'.output = w.output
theorem Ext.refl (w : World) : Ext w w := ⟨fun _ _ h => h, rfl, rfl, rfl⟩
theorem Ext.trans {w w1 w2 : World} (h : Ext w w1) (h' : Ext w1 w2) : Ext w w2 := ⟨fun b o x => h'.heap b o (h.heap b o x), h'.os.trans h.os, h'.tape.trans h.tape, h'.output.trans h.output⟩
theorem Ext.drew (w : World) : Ext w { w with drawn := w.drawn + 1 } := ⟨fun _ _ h => h, rfl, rfl, rfl⟩
def Cl (C : World → Prop) : Prop := ∀ w w', C w → Ext w w' → C w'

/-! ### a quiet operation -/
def Oper.qUpon (P : Program) (w : World) (v : Value) : Result Next → Prop
  | .ok (.value u) w' => u = v ∧ Ext w w'
  | .ok .skip w' => v = undef ∧ Ext w w'
  | .ok (.enter f args) w' => Ext w w' ∧ Calls P f args w' (fun e w'' => e = .returned v ∧ Ext w w'')
  | _ => False
def Oper.qx (P : Program) (o : Oper) (a : Act) (w : World) (v : Value) : Prop := Oper.qUpon P w v ((execOp a.eval o).run P w)

theorem Oper.wp_of_qx {P : Program} {o : Oper} {a : Act} {w : World} {v : Value} {K : Act → World → Prop} {Q : Exit → Act → World → Prop}
    (h : Oper.qx P o a w v) (hK : ∀ w', Ext w w' → K (a.put o.dst v) w') : o.wp P a w K Q := by
  unfold Oper.qx at h
  unfold Oper.wp
  generalize (execOp a.eval o).run P w = r at *
  cases r with
  | ok n w' =>
    cases n <;> simp only [Oper.qUpon] at h <;> simp only [Oper.upon]
    case value u => obtain ⟨rfl, h2⟩ := h; exact hK _ h2
    case skip => obtain ⟨rfl, h2⟩ := h; exact hK _ h2
    case enter f args => exact h.2.mono fun e w'' ⟨he, hw⟩ => by subst he; exact hK _ hw
  | halt x w' => simp only [Oper.qUpon] at h

/-- What op o leaves at act a, in class C: run quietly, or passed over. -/
def Yl (P : Program) (ops : Array Oper) (C : World → Prop) (o : Oper) (v : Value) (a : Act) : Prop :=
  (Region.wanted o (yielded ops a.tmps) = true ∧ ∀ w, C w → Oper.qx P o a w v) ∨ (Region.wanted o (yielded ops a.tmps) = false ∧ v = undef)

section
variable {P : Program} {ops : Array Oper} {C : World → Prop}

theorem Yl.same {o : Oper} {v : Value} {a a' : Act} (hy : Yl P ops C o v a) (he : execOp a'.eval o = execOp a.eval o)
    (hw : Region.wanted o (yielded ops a'.tmps) = Region.wanted o (yielded ops a.tmps)) : Yl P ops C o v a' := by
  unfold Yl Oper.qx at *
  rw [he, hw]; exact hy
theorem Yl.mono {C' : World → Prop} {o : Oper} {v : Value} {a : Act} (hy : Yl P ops C o v a) (h : ∀ w, C' w → C w) : Yl P ops C' o v a :=
  hy.imp (fun ⟨h1, h2⟩ => ⟨h1, fun w hw => h2 w (h w hw)⟩) id

/-- the quiet operations of the list, one by one -/
def mwalk (P : Program) (ops : Array Oper) (C : World → Prop) (K : Act → Prop) : List Nat → Act → Prop
  | [], a => K a
  | i :: r, a => ∃ o v, ops[i]? = some o ∧ Yl P ops C o v a ∧ mwalk P ops C K r (a.put o.dst v)

theorem mwalk_mono {C' : World → Prop} {K K' : Act → Prop} (hC : ∀ w, C' w → C w) (hK : ∀ a, K a → K' a) :
    ∀ (l : List Nat) (a : Act), mwalk P ops C K l a → mwalk P ops C' K' l a
  | [], a, h => hK a h
  | _ :: r, _, ⟨o, v, h1, h2, h3⟩ => ⟨o, v, h1, h2.mono hC, mwalk_mono hC hK r _ h3⟩

theorem mwalk_append {K : Act → Prop} : ∀ (l m : List Nat) (a : Act), mwalk P ops C (mwalk P ops C K m) l a → mwalk P ops C K (l ++ m) a
  | [], _, _, h => h
  | _ :: r, m, _, ⟨o, v, h1, h2, h3⟩ => ⟨o, v, h1, h2, mwalk_append r m _ h3⟩

/-- apart, by their numbers -/
def apartB (ops : Array Oper) (i j : Nat) : Bool :=
  match ops[i]?, ops[j]? with
  | some x, some y => x.apart ops y
  | _, _ => false

variable (hs : Region.noSelect ops = true)
include hs
/-- an op that is apart from all that stand ahead of it may come first -/
theorem mwalk_front {K : Act → Prop} {j : Nat} : ∀ (l : List Nat) (a : Act), j ∈ l → (∀ i ∈ l.takeWhile (· != j), apartB ops i j = true) → mwalk P ops C K l a →
    ∃ o v, ops[j]? = some o ∧ Yl P ops C o v a ∧ mwalk P ops C K (l.erase j) (a.put o.dst v)
  | [], _, h, _, _ => by cases h
  | i :: r, a, hj, hap, ⟨o, v, h1, h2, h3⟩ => by
    by_cases hij : i = j
    · subst hij
      exact ⟨o, v, h1, h2, by rw [List.erase_cons_head]; exact h3⟩
    · have hjr : j ∈ r := by
        cases hj with
        | head => exact absurd rfl hij
        | tail _ h => exact h
      have hne : (i != j) = true := by simpa using hij
      have htw : ∀ x ∈ r.takeWhile (· != j), apartB ops x j = true := fun x hx => hap x (by
        rw [List.takeWhile_cons, if_pos hne]; exact List.mem_cons_of_mem _ hx)
      obtain ⟨oj, u, hoj, hy, hm⟩ := mwalk_front r _ hjr htw h3
      have h4 := hap i (by rw [List.takeWhile_cons, if_pos hne]; exact List.mem_cons_self)
      unfold apartB at h4
      rw [h1, hoj] at h4
      obtain ⟨p1, p2, p3⟩ := Oper.apart_spec h4
      have si := Region.noSelect_spec hs i o
      have sj := Region.noSelect_spec hs j oj
      refine ⟨oj, u, hoj, hy.same (execOp_put oj (fun cs b => sj cs b hoj) a o.dst v p1).symm (wanted_put oj a o.dst v p1).symm, ?_⟩
      rw [List.erase_cons_tail (by simpa using hij)]
      refine ⟨o, v, h1, h2.same (execOp_put o (fun cs b => si cs b h1) a oj.dst u p3) (wanted_put o a oj.dst u p3), ?_⟩
      rw [← Act.put_comm a v u p2]; exact hm

/-- an op that is apart from all of the list: what it does ahead of them it does behind them -/
theorem mwalk_past {K : Act → Prop} {j : Nat} {oj : Oper} (hoj : ops[j]? = some oj) : ∀ (l : List Nat) (a : Act), (∀ i ∈ l, apartB ops i j = true) → mwalk P ops C K l a →
    ∃ a', K a' ∧ execOp a'.eval oj = execOp a.eval oj ∧ Region.wanted oj (yielded ops a'.tmps) = Region.wanted oj (yielded ops a.tmps) ∧
      ∀ (u : Value) (K' : Act → Prop), K' (a'.put oj.dst u) → mwalk P ops C K' l (a.put oj.dst u)
  | [], a, _, h => ⟨a, h, rfl, rfl, fun _ _ h => h⟩
  | i :: r, a, hap, ⟨o, v, h1, h2, h3⟩ => by
    obtain ⟨a', k1, k2, k3, k4⟩ := mwalk_past hoj r _ (fun i hi => hap i (List.mem_cons_of_mem _ hi)) h3
    have h4 := hap i List.mem_cons_self
    unfold apartB at h4
    rw [h1, hoj] at h4
    obtain ⟨p1, p2, p3⟩ := Oper.apart_spec h4
    have si := Region.noSelect_spec hs i o
    have sj := Region.noSelect_spec hs j oj
    refine ⟨a', k1, k2.trans (execOp_put oj (fun cs b => sj cs b hoj) a o.dst v p1), k3.trans (wanted_put oj a o.dst v p1), fun u K' hk => ?_⟩
    refine ⟨o, v, h1, h2.same (execOp_put o (fun cs b => si cs b h1) a oj.dst u p3) (wanted_put o a oj.dst u p3), ?_⟩
    rw [← Act.put_comm a v u p2]; exact k4 u K' hk
end

/-! ### an operation with an effect -/
def Oper.eUpon (P : Program) (next : Value → World → Prop) : Result Next → Prop
  | .ok (.value v) w' => next v w'
  | .ok .skip w' => next undef w'
  | .ok (.enter f args) w' => Calls P f args w' (fun e w'' => ∃ v, e = .returned v ∧ next v w'')
  | _ => False
def Oper.ex (P : Program) (o : Oper) (a : Act) (w : World) (next : Value → World → Prop) : Prop := Oper.eUpon P next ((execOp a.eval o).run P w)

theorem Oper.wp_of_ex {P : Program} {o : Oper} {a : Act} {w : World} {next : Value → World → Prop} {K : Act → World → Prop} {Q : Exit → Act → World → Prop}
    (h : Oper.ex P o a w next) (hK : ∀ v w', next v w' → K (a.put o.dst v) w') : o.wp P a w K Q := by
  unfold Oper.ex at h
  unfold Oper.wp
  generalize (execOp a.eval o).run P w = r at *
  cases r with
  | ok n w' =>
    cases n <;> simp only [Oper.eUpon] at h <;> simp only [Oper.upon]
    case value u => exact hK _ _ h
    case skip => exact hK _ _ h
    case enter f args => exact h.mono fun e w'' ⟨v, he, hw⟩ => by subst he; exact hK _ _ hw
  | halt x w' => simp only [Oper.eUpon] at h

theorem Oper.ex_mono {P : Program} {o : Oper} {a : Act} {w : World} {next next' : Value → World → Prop} (h : Oper.ex P o a w next) (hn : ∀ v w', next v w' → next' v w') :
    Oper.ex P o a w next' := by
  unfold Oper.ex at *
  generalize (execOp a.eval o).run P w = r at *
  cases r with
  | ok n w' =>
    cases n <;> simp only [Oper.eUpon] at *
    case value u => exact hn _ _ h
    case skip => exact hn _ _ h
    case enter f args => exact h.mono fun e w'' ⟨v, he, hw⟩ => ⟨v, he, hn _ _ hw⟩
  | halt x w' => simp only [Oper.eUpon] at h

theorem Oper.ex_of_qx {P : Program} {o : Oper} {a : Act} {w : World} {v : Value} (h : Oper.qx P o a w v) : Oper.ex P o a w (fun u w' => u = v ∧ Ext w w') := by
  unfold Oper.qx at h
  unfold Oper.ex
  generalize (execOp a.eval o).run P w = r at *
  cases r with
  | ok n w' =>
    cases n <;> simp only [Oper.qUpon] at h <;> simp only [Oper.eUpon]
    case value u => exact h
    case skip => exact ⟨h.1.symm, h.2⟩
    case enter f args => exact h.2.mono fun e w'' ⟨he, hw⟩ => ⟨v, he, rfl, hw⟩
  | halt x w' => simp only [Oper.qUpon] at h

/-- The script: effects, and behind each the quiet operations that wait for it. s: nothing is pending when it comes up. -/
structure Stage where
  e : Nat
  s : Bool
  ms : List Nat
def rtw (P : Program) (ops : Array Oper) (Q : Act → World → Prop) : (World → Prop) → List Stage → Act → World → Prop
  | _, [], a, w => ∀ w1, Ext w w1 → Q a w1
  | C, t :: r, a, w => ∀ w1, Ext w w1 → ∃ o, ops[t.e]? = some o ∧ Region.wanted o (yielded ops a.tmps) = true ∧
      Oper.ex P o a w1 (fun v w' => ∃ C' : World → Prop, Cl C' ∧ C' w' ∧ (t.s = true ∨ ∀ w, C' w → C w) ∧ mwalk P ops C' (fun a' => rtw P ops Q C' r a' w') t.ms (a.put o.dst v))

theorem rtw_ext {P : Program} {ops : Array Oper} {Q : Act → World → Prop} {C : World → Prop} {a : Act} {w w' : World} (h : Ext w w') :
    ∀ (l : List Stage), rtw P ops Q C l a w → rtw P ops Q C l a w'
  | [], hh => fun w1 h1 => hh w1 (h.trans h1)
  | _ :: _, hh => fun w1 h1 => hh w1 (h.trans h1)

/-! ### the static look -/
def tbit (T : List Nat) (j i : Nat) : Bool := (T.getD j 0).testBit i
/-- T names, of each op, what it waits for, directly or through others -/
def tabOk (md : Region.Mode) (ops : Array Oper) (T : List Nat) : Bool :=
  (List.range ops.size).all fun j => (List.range ops.size).all fun i => !tbit T j i ||
    match ops[j]? with
    | some o => o.after.any fun e => Region.binds md e && decide (e.on < j) && (e.on == i || tbit T e.on i)
    | none => false
def stIdx : List Stage → List Nat
  | [] => []
  | t :: r => t.e :: (t.ms ++ stIdx r)
def stagesOk (T : List Nat) : List Nat → List Stage → Bool
  | _, [] => true
  | seen, t :: r => (!t.s || seen.all fun i => tbit T t.e i) && (t.ms ++ stIdx r).all (fun i => tbit T i t.e) && stagesOk T (seen ++ t.ms) r
def pairsOk (ops : Array Oper) (T : List Nat) : List Nat → Bool
  | [] => true
  | i :: r => r.all (fun j => tbit T j i || apartB ops i j) && pairsOk ops T r
def ndB : List Nat → Bool
  | [] => true
  | i :: r => !r.contains i && ndB r
theorem ndB_spec : ∀ (l : List Nat), ndB l = true → l.Nodup
  | [], _ => List.nodup_nil
  | i :: r, h => by
    simp only [ndB, Bool.and_eq_true, Bool.not_eq_true'] at h
    refine List.nodup_cons.2 (And.intro (fun hi => ?_) (ndB_spec r h.2))
    have h2 := List.contains_iff_mem.2 hi
    rw [h.1] at h2
    exact absurd h2 (by simp)
def backOk (md : Region.Mode) (ops : Array Oper) : Bool :=
  (List.range ops.size).all fun j => match ops[j]? with
    | some o => o.after.all fun e => !Region.binds md e || decide (e.on < j)
    | none => false
def lookOk (md : Region.Mode) (ops : Array Oper) (T : List Nat) (pend : List Nat) (l : List Stage) : Bool :=
  Region.noSelect ops && tabOk md ops T && backOk md ops && stagesOk T pend l && pairsOk ops T (pend ++ stIdx l) &&
  (List.range ops.size).all (fun i => (pend ++ stIdx l).contains i) && (pend ++ stIdx l).all (fun i => decide (i < ops.size)) && decide ((pend ++ stIdx l).length = ops.size) && ndB (pend ++ stIdx l)

/-- what is listed is closed -/
structure LInv (md : Region.Mode) (ops : Array Oper) (listed : Array Bool) : Prop where
  size : listed.size = ops.size
  closed : ∀ (j : Nat) (oj : Oper), ops[j]? = some oj → listed.getD j false = true → ∀ e ∈ oj.after, Region.binds md e = true → listed.getD e.on false = true
theorem LInv.set {md : Region.Mode} {ops : Array Oper} {listed : Array Bool} {i : Nat} (inv : LInv md ops listed) (hi : i ∈ Region.ready md ops listed) : LInv md ops (listed.setIfInBounds i true) where
  size := by simp [inv.size]
  closed := fun j oj hj hl e he hb => by
    obtain ⟨h0, o, ho, hall⟩ := mem_ready.1 hi
    by_cases hij : i = j
    · subst hij
      rw [ho] at hj; cases hj
      exact getD_set_true (hall e he hb)
    · rw [getD_set_ne false hij] at hl
      exact getD_set_true (inv.closed j oj hj hl e he hb)
theorem tab_listed {md : Region.Mode} {ops : Array Oper} {T : List Nat} {listed : Array Bool} (ht : tabOk md ops T = true) (inv : LInv md ops listed) :
    ∀ (j i : Nat) (o : Oper), ops[j]? = some o → (∀ e ∈ o.after, Region.binds md e = true → listed.getD e.on false = true) → i < ops.size → tbit T j i = true → listed.getD i false = true := by
  intro j
  induction j using Nat.strongRecOn with
  | _ j ih =>
    intro i o ho hd hi hb
    have hj : j < ops.size := (Array.getElem?_eq_some_iff.1 ho).1
    have h1 := List.all_eq_true.1 (List.all_eq_true.1 ht j (List.mem_range.2 hj)) i (List.mem_range.2 hi)
    rw [hb, ho] at h1
    simp only [Bool.not_true, Bool.false_or] at h1
    obtain ⟨e, he, h2⟩ := Array.any_eq_true'.1 h1
    simp only [Bool.and_eq_true, decide_eq_true_eq, Bool.or_eq_true, beq_iff_eq] at h2
    obtain ⟨⟨hbd, hlt⟩, h3⟩ := h2
    have hle := hd e he hbd
    rcases h3 with h3 | h3
    · rw [← h3]; exact hle
    · have hes : e.on < ops.size := by omega
      have hoe : ops[e.on]? = some ops[e.on] := Array.getElem?_eq_getElem hes
      exact ih e.on hlt i _ hoe (fun e' he' hb' => inv.closed e.on _ hoe hle e' he' hb') hi h3

theorem stagesOk_sub {T : List Nat} : ∀ (l : List Stage) (seen seen' : List Nat), (∀ i ∈ seen', i ∈ seen) → stagesOk T seen l = true → stagesOk T seen' l = true
  | [], _, _, _, _ => rfl
  | t :: r, seen, seen', hsub, h => by
    simp only [stagesOk, Bool.and_eq_true, Bool.or_eq_true, List.all_eq_true] at h ⊢
    refine ⟨⟨h.1.1.imp id (fun h1 i hi => h1 i (hsub i hi)), h.1.2⟩, stagesOk_sub r _ _ (fun i hi => ?_) h.2⟩
    rcases List.mem_append.1 hi with h1 | h1
    · exact List.mem_append_left _ (hsub i h1)
    · exact List.mem_append_right _ h1
theorem pairsOk_sub {ops : Array Oper} {T : List Nat} : ∀ {l l' : List Nat}, List.Sublist l' l → pairsOk ops T l = true → pairsOk ops T l' = true := by
  intro l l' hs
  induction hs with
  | slnil => exact id
  | cons a _ ih =>
    intro h
    simp only [pairsOk, Bool.and_eq_true] at h
    exact ih h.2
  | cons_cons a hs ih =>
    intro h
    simp only [pairsOk, Bool.and_eq_true, List.all_eq_true] at h ⊢
    exact ⟨fun j hj => h.1 j (hs.subset hj), ih h.2⟩
theorem pairsOk_at {ops : Array Oper} {T : List Nat} {j : Nat} : ∀ (l m : List Nat), pairsOk ops T (l ++ j :: m) = true → ∀ i ∈ l, tbit T j i = true ∨ apartB ops i j = true
  | [], _, _, _, h => by cases h
  | x :: r, m, h, i, hi => by
    simp only [List.cons_append, pairsOk, Bool.and_eq_true, List.all_eq_true, Bool.or_eq_true] at h
    cases hi with
    | head => exact h.1 j (List.mem_append_right _ List.mem_cons_self)
    | tail _ hi => exact pairsOk_at r m h.2 i hi

section
variable {P : Program} {md : Region.Mode} {ops : Array Oper} {T : List Nat}

theorem any_of (hs : Region.noSelect ops = true) (ht : tabOk md ops T = true) (hb : backOk md ops = true) {Q : Exit → Act → World → Prop} :
    ∀ (fuel : Nat) (listed : Array Bool) (pend : List Nat) (l : List Stage) (a : Act) (w : World) (C : World → Prop), LInv md ops listed → stagesOk T pend l = true → pairsOk ops T (pend ++ stIdx l) = true →
      (∀ i, i < ops.size → (listed.getD i true = false ↔ i ∈ pend ++ stIdx l)) → (pend ++ stIdx l).Nodup → fuel = (pend ++ stIdx l).length → (∀ i ∈ pend ++ stIdx l, i < ops.size) → Cl C → (pend ≠ [] → C w) →
      mwalk P ops C (fun a' => rtw P ops (fun a w => Q .normal a w) C l a' w) pend a → wpAny P md ops Q fuel listed a w := by
  intro fuel
  induction fuel with
  | zero =>
    intro listed pend l a w C inv hso hpo hix hnd hf hlt hC hCw hm
    have he : pend ++ stIdx l = [] := List.length_eq_zero_iff.1 hf.symm
    obtain ⟨e1, e2⟩ := List.append_eq_nil_iff.1 he
    subst e1
    cases l with
    | cons t r => simp [stIdx] at e2
    | nil =>
      refine ⟨?_, hm w (Ext.refl w)⟩
      cases hr : Region.ready md ops listed with
      | nil => rfl
      | cons i _ =>
        have hi : i ∈ Region.ready md ops listed := by rw [hr]; exact List.mem_cons_self
        obtain ⟨h0, o, ho, _⟩ := mem_ready.1 hi
        have := (hix i (Array.getElem?_eq_some_iff.1 ho).1).1 h0
        simp [stIdx] at this
  | succ fuel ih =>
    intro listed pend l a w C inv hso hpo hix hnd hf hlt hC hCw hm
    refine ⟨fun hr => ?_, fun j hj => ?_⟩
    · -- something is ready
      exfalso
      have hne : ∃ i, i ∈ pend ++ stIdx l := by
        cases hl : pend ++ stIdx l with
        | nil => rw [hl] at hf; cases hf
        | cons i _ => exact ⟨i, List.mem_cons_self⟩
      obtain ⟨i, hi⟩ := hne
      have key : ∀ i, i ∈ pend ++ stIdx l → False := by
        intro i
        induction i using Nat.strongRecOn with
        | _ i ihi =>
          intro hi
          have hil := hlt i hi
          have hoi : ops[i]? = some ops[i] := Array.getElem?_eq_getElem hil
          have hrd : i ∈ Region.ready md ops listed := mem_ready.2 ⟨(hix i hil).2 hi, ops[i], hoi, fun e he hbd => by
            have h1 := List.all_eq_true.1 hb i (List.mem_range.2 hil)
            rw [hoi] at h1
            have h2 := Array.all_eq_true_iff_forall_mem.1 h1 e he
            simp only [hbd, Bool.not_true, Bool.false_or, decide_eq_true_eq] at h2
            cases hle : listed.getD e.on false with
            | true => rfl
            | false =>
              have hes : e.on < ops.size := by omega
              have : listed.getD e.on true = false := by
                have hsz : e.on < listed.size := by rw [inv.size]; exact hes
                simp [hsz] at hle ⊢; exact hle
              exact (ihi e.on h2 ((hix e.on hes).1 this)).elim⟩
          rw [hr] at hrd; cases hrd
      exact key i hi
    · obtain ⟨h0, oj, hoj, hdeps⟩ := mem_ready.1 hj
      have hjl : j < ops.size := (Array.getElem?_eq_some_iff.1 hoj).1
      have hjm := (hix j hjl).1 h0
      have hidx : ∀ i, i < ops.size → ((listed.setIfInBounds j true).getD i true = false ↔ i ≠ j ∧ i ∈ pend ++ stIdx l) := fun i hi => by
        by_cases hij : j = i
        · subst hij
          have hsz : j < listed.size := by rw [inv.size]; exact hi
          simp [hsz]
        · rw [getD_set_ne true hij]; exact ⟨fun h => ⟨Ne.symm hij, (hix i hi).1 h⟩, fun h => (hix i hi).2 h.2⟩
      -- what is pending is not listed
      have hno : ∀ i, i ∈ pend ++ stIdx l → tbit T j i = true → False := fun i hi hb => by
        have h1 := tab_listed ht inv j i oj hoj hdeps (hlt i hi) hb
        have h2 := (hix i (hlt i hi)).2 hi
        have hsz : i < listed.size := by rw [inv.size]; exact hlt i hi
        simp [hsz] at h1 h2
        rw [h1] at h2; cases h2
      by_cases hjp : j ∈ pend
      · -- a quiet one
        have hap : ∀ i ∈ pend.takeWhile (· != j), apartB ops i j = true := fun i hi => by
          obtain ⟨l1, l2, e1, e2⟩ : ∃ l1 l2, pend = l1 ++ j :: l2 ∧ pend.takeWhile (· != j) = l1 := by
            have hdw := List.takeWhile_append_dropWhile (p := (· != j)) (l := pend)
            cases hd : pend.dropWhile (· != j) with
            | nil =>
              rw [hd, List.append_nil] at hdw
              have : j ∈ pend.takeWhile (· != j) := by rw [hdw]; exact hjp
              have := List.all_eq_true.1 List.all_takeWhile j this
              simp at this
            | cons x r =>
              have hx : (x != j) = false := by
                have := List.head?_dropWhile_not (p := (· != j)) pend
                rw [hd] at this; simpa using this
              have hxj : x = j := by simpa using hx
              subst hxj
              exact ⟨pend.takeWhile (· != x), r, by rw [hd] at hdw; exact hdw.symm, rfl⟩
          rw [e2] at hi
          have h1 := hpo
          rw [e1, List.append_assoc, List.cons_append] at h1
          rcases pairsOk_at l1 _ h1 i hi with h2 | h2
          · exact (hno i (by rw [e1]; simp [hi]) h2).elim
          · exact h2
        obtain ⟨o, v, ho, hy, hm'⟩ := mwalk_front hs pend a hjp hap hm
        rw [hoj] at ho; cases ho
        have hCw' := hCw (fun e => by rw [e] at hjp; cases hjp)
        have hnd' : (pend.erase j ++ stIdx l).Nodup := by
          refine List.Nodup.sublist ?_ hnd
          exact List.Sublist.append_right List.erase_sublist _
        have hjn : j ∉ stIdx l := fun h => (List.nodup_append.1 hnd).2.2 j hjp j h rfl
        have hmem : ∀ i, i ∈ pend.erase j ++ stIdx l ↔ i ≠ j ∧ i ∈ pend ++ stIdx l := fun i => by
          have hpn : pend.Nodup := (List.nodup_append.1 hnd).1
          rw [List.mem_append, List.mem_append, hpn.mem_erase_iff]
          constructor
          · rintro (h | h)
            · exact ⟨h.1, Or.inl h.2⟩
            · exact ⟨fun e => hjn (e ▸ h), Or.inr h⟩
          · rintro ⟨h1, h | h⟩
            · exact Or.inl ⟨h1, h⟩
            · exact Or.inr h
        have go : ∀ w', Ext w w' → wpAny P md ops Q fuel (listed.setIfInBounds j true) (a.put oj.dst v) w' := fun w' hw' => by
          refine ih _ (pend.erase j) l _ w' C (inv.set hj) (stagesOk_sub l _ _ (fun i hi => List.mem_of_mem_erase hi) hso) (pairsOk_sub (List.Sublist.append_right List.erase_sublist _) hpo) ?_ hnd' ?_ ?_ hC (fun _ => hC w w' hCw' hw') ?_
          · intro i hi; rw [hidx i hi, hmem]
          · rw [List.length_append] at hf ⊢; rw [List.length_erase_of_mem hjp]; have := List.length_pos_of_mem hjp; omega
          · intro i hi; exact hlt i ((hmem i).1 hi).2
          · exact mwalk_mono (fun _ h => h) (fun a' h => rtw_ext hw' l h) _ _ hm'
        unfold wpOp
        simp only [hoj]
        rcases hy with ⟨hw, hq⟩ | ⟨hw, rfl⟩
        · simp only [hw, if_true]
          exact Or.inl (Oper.wp_of_qx (hq w hCw') go)
        · simp only [hw, Bool.false_eq_true, if_false]
          exact go w (Ext.refl w)
      · have hjs : j ∈ stIdx l := (List.mem_append.1 hjm).resolve_left hjp
        cases l with
        | nil => cases hjs
        | cons t r =>
          simp only [stagesOk, Bool.and_eq_true, Bool.or_eq_true, List.all_eq_true] at hso
          obtain ⟨⟨hss, hwait⟩, hso'⟩ := hso
          have hte : t.e ∈ pend ++ stIdx (t :: r) := List.mem_append_right _ List.mem_cons_self
          have hjt : j = t.e := by
            cases hjs with
            | head => rfl
            | tail _ h => exact (hno t.e hte (hwait j h)).elim
          subst hjt
          have hpe : t.s = true → pend = [] := fun h => by
            rcases hss with h1 | h1
            · rw [h] at h1; cases h1
            · cases hp : pend with
              | nil => rfl
              | cons i _ => exact (hno i (by rw [hp]; exact List.mem_cons_self) (h1 i (by rw [hp]; exact List.mem_cons_self))).elim
          have hap : ∀ i ∈ pend, apartB ops i t.e = true := fun i hi => by
            rcases pairsOk_at pend _ hpo i hi with h2 | h2
            · exact (hno i (List.mem_append_left _ hi) h2).elim
            · exact h2
          obtain ⟨a', hr, hex, hwt, hput⟩ := mwalk_past hs hoj pend a hap hm
          obtain ⟨o, ho, hwo, hop⟩ := hr w (Ext.refl w)
          rw [hoj] at ho; cases ho
          unfold wpOp
          simp only [hoj]
          rw [← hwt, hwo]
          simp only [if_true]
          refine Or.inl (Oper.wp_of_ex (next := _) (by unfold Oper.ex at hop ⊢; rw [← hex]; exact hop) ?_)
          rintro v w' ⟨C', hC', hCw', hsub, hmw⟩
          have hsl : List.Sublist ((pend ++ t.ms) ++ stIdx r) (pend ++ stIdx (t :: r)) := by
            rw [List.append_assoc]
            exact List.Sublist.append_left (List.sublist_cons_self _ _) _
          have hnd' := List.Nodup.sublist hsl hnd
          have htn : t.e ∉ (pend ++ t.ms) ++ stIdx r := fun h => by
            have h1 := List.nodup_append.1 hnd
            rw [List.append_assoc] at h
            rcases List.mem_append.1 h with h2 | h2
            · exact h1.2.2 _ h2 _ List.mem_cons_self rfl
            · exact (List.nodup_cons.1 h1.2.1).1 h2
          have hmem : ∀ i, i ∈ (pend ++ t.ms) ++ stIdx r ↔ i ≠ t.e ∧ i ∈ pend ++ stIdx (t :: r) := fun i => by
            constructor
            · exact fun h => ⟨fun e => htn (e ▸ h), hsl.subset h⟩
            · rintro ⟨h1, h⟩
              rw [List.append_assoc]
              rcases List.mem_append.1 h with h | h
              · exact List.mem_append_left _ h
              · exact List.mem_append_right _ ((List.mem_cons.1 h).resolve_left h1)
          refine ih _ (pend ++ t.ms) r _ w' C' (inv.set hj) hso' (pairsOk_sub hsl hpo) ?_ hnd' ?_ ?_ hC' (fun _ => hCw') ?_
          · intro i hi; rw [hidx i hi, hmem]
          · simp only [stIdx, List.length_append, List.length_cons] at hf ⊢; omega
          · intro i hi; exact hlt i ((hmem i).1 hi).2
          · refine mwalk_append _ _ _ ?_
            have h3 := hput v (mwalk P ops C' (fun a'' => rtw P ops (fun a w => Q .normal a w) C' r a'' w') t.ms) hmw
            by_cases hp : pend = []
            · subst hp; exact h3
            · refine mwalk_mono (hsub.resolve_left (fun h => hp (hpe h))) (fun _ h => h) _ _ h3

/-- **A region that draws its order.** -/
theorem wp_region_script {id : Nat} {Q : Exit → Act → World → Prop} {a : Act} {w : World} {C : World → Prop} (T : List Nat) (pend : List Nat) (l : List Stage) (hm : P.follows .mixedOrders = true)
    (hlook : lookOk .any ops T pend l = true) (hC : Cl C) (hw : C w) (h : mwalk P ops C (fun a' => ∀ w, C w → rtw P ops (fun a w => Q .normal a w) C l a' w) pend a) : (Code.region id ops true).wp P Q a w := by
  refine wp_region_any hm ?_
  simp only [lookOk, Bool.and_eq_true, List.all_eq_true, List.mem_range, decide_eq_true_eq, List.contains_iff_mem] at hlook
  obtain ⟨⟨⟨⟨⟨⟨⟨⟨hs, ht⟩, hb⟩, hso⟩, hpo⟩, hall⟩, hlt⟩, hlen⟩, hnd⟩ := hlook
  have hw1 : C { w with drawn := w.drawn + 1 } := hC w _ hw (Ext.drew w)
  refine any_of hs ht hb ops.size _ pend l a _ C ⟨by simp, fun j oj hj hl => ?_⟩ hso hpo (fun i hi => ?_) (ndB_spec _ hnd) hlen.symm hlt hC (fun _ => hw1) (mwalk_mono (fun _ h => h) (fun a' h => h _ hw1) _ _ h)
  · have := (Array.getElem?_eq_some_iff.1 hj).1
    simp [this] at hl
  · simp [hi]; exact List.mem_append.1 (hall i hi)
end
end Go.GX
