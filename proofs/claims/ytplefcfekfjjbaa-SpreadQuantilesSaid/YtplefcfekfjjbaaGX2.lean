/- What is known of the slots; rules for code, loops, joins, calls: no conditions beyond those each theorem states. -/
import Derived.Test.YtplefcfekfjjbaaGX1
set_option linter.unusedVariables false
set_option linter.unusedSimpArgs false
namespace Go.GX
open Go

/-! ### what is known of the slots -/
abbrev Env := List (Nat × Value)
def Env.lk : Env → Nat → Option Value
  | [], _ => none
  | (k, v) :: r, t => match Nat.beq k t with | true => some v | false => Env.lk r t
def Env.ev (e : Env) : Operand → Option Value
  | .tmp t => e.lk t
  | .const v => some v
  | .global g => some (.pointer (some ⟨g, 0, none⟩))
  | .func f => some (.func (.func f) #[] #[])
def Ag (e : Env) (a : Act) : Prop := ∀ t v, e.lk t = some v → a.tmps[t]? = some v
structure St (N : Nat) (e : Env) (a : Act) : Prop where
  size : a.tmps.size = N
  defers : a.defers = []
  ag : Ag e a
theorem Ag.ev {e : Env} {a : Act} {x : Operand} {v : Value} (h : Ag e a) (hx : e.ev x = some v) : a.eval x = v := by
  cases x with
  | tmp t => have := h t v hx; simp [Act.eval, Array.getD_eq_getD_getElem?, this]
  | const u => simp [Env.ev] at hx; simp [Act.eval, hx]
  | global g => simp [Env.ev] at hx; simp [Act.eval, hx]
  | func f => simp [Env.ev] at hx; simp [Act.eval, hx]
theorem Env.lk_cons_same (e : Env) (t : Nat) (v : Value) : Env.lk ((t, v) :: e) t = some v := by simp [Env.lk]
theorem Env.lk_cons_other {e : Env} {t k : Nat} {v : Value} (h : k ≠ t) : Env.lk ((k, v) :: e) t = e.lk t := by
  have : Nat.beq k t = false := by
    cases hb : Nat.beq k t with
    | false => rfl
    | true => exact absurd (Nat.eq_of_beq_eq_true hb) h
  simp [Env.lk, this]
theorem St.put {N : Nat} {e : Env} {a : Act} {d : Nat} {v : Value} (h : St N e a) (hd : d < N) : St N ((d, v) :: e) (a.put (some d) v) where
  size := by simp [Act.put, h.size]
  defers := h.defers
  ag := fun t u ht => by
    by_cases hdt : d = t
    · subst hdt
      rw [Env.lk_cons_same] at ht; cases ht
      have : d < a.tmps.size := by rw [h.size]; exact hd
      simp [Act.put, this]
    · rw [Env.lk_cons_other hdt] at ht
      have := h.ag t u ht
      simp [Act.put, Array.getElem?_setIfInBounds_ne hdt, this]
theorem St.put_none {N : Nat} {e : Env} {a : Act} {v : Value} (h : St N e a) : St N e (a.put none v) := h
def Env.sub (e : Env) : Env → Prop
  | [] => True
  | (t, v) :: r => e.lk t = some v ∧ Env.sub e r
theorem Env.sub_lk {e : Env} : ∀ {e' : Env}, Env.sub e e' → ∀ t v, e'.lk t = some v → e.lk t = some v
  | [], _, t, v, h => by cases h
  | (k, u) :: r, h, t, v, hl => by
    by_cases hk : k = t
    · subst hk; rw [Env.lk_cons_same] at hl; cases hl; exact h.1
    · rw [Env.lk_cons_other hk] at hl; exact Env.sub_lk h.2 t v hl
theorem St.sub {N : Nat} {e e' : Env} {a : Act} (h : St N e a) (hs : Env.sub e e') : St N e' a := ⟨h.size, h.defers, fun t v ht => h.ag t v (Env.sub_lk hs t v ht)⟩

/-- the guard -/
def gv (ops : Array Oper) (e : Env) (o : Oper) : Option Bool :=
  match o.guard with
  | none => some true
  | some (j, want) => match (ops[j]?).bind (·.dst) with
    | some t => match e.lk t with
      | some (.bool b) => some (b == want)
      | some (.tuple _) => some false
      | _ => none
    | none => none
theorem gv_spec {ops : Array Oper} {e : Env} {o : Oper} {b : Bool} {a : Act} (h : gv ops e o = some b) (ha : Ag e a) : Region.wanted o (yielded ops a.tmps) = b := by
  unfold gv at h
  unfold Region.wanted
  split at h
  · rename_i hg; simp only [hg]; cases h; rfl
  · rename_i j want hg
    simp only [hg]
    split at h
    · rename_i t ht
      split at h
      · rename_i b' hb
        have h1 := ha t _ hb
        unfold yielded
        rw [ht]
        simp only [Option.bind_some, h1]
        cases h
        cases b' <;> cases want <;> rfl
      · rename_i vs hb
        have h1 := ha t _ hb
        unfold yielded
        rw [ht]
        simp only [Option.bind_some, h1]
        cases h
        cases want <;> rfl
      · cases h
    · cases h

/-! ### operations over what is known -/
def QOp (P : Program) (o : Oper) (e : Env) (C : World → Prop) (v : Value) : Prop := ∀ a w, Ag e a → C w → Oper.qx P o a w v
def EOp (P : Program) (o : Oper) (e : Env) (C : World → Prop) (next : Value → World → Prop) : Prop := ∀ a w, Ag e a → C w → Oper.ex P o a w next

section
variable {P : Program} {ops : Array Oper} {N : Nat} {e : Env} {C : World → Prop}

/-! ### a region that draws -/
def MW (P : Program) (ops : Array Oper) (N : Nat) (C : World → Prop) (K : Act → Prop) (l : List Nat) (e : Env) : Prop := Cl C → ∀ a, St N e a → mwalk P ops C K l a
def RW (P : Program) (ops : Array Oper) (N : Nat) (Q : Act → World → Prop) (C : World → Prop) (l : List Stage) (e : Env) : Prop := Cl C → ∀ a w, St N e a → C w → rtw P ops Q C l a w
def PT (N : Nat) (e : Env) (C : World → Prop) (Q : Act → World → Prop) : Prop := Cl C → ∀ a w, St N e a → C w → Q a w

theorem mw_q {K : Act → Prop} {i d : Nat} {r : List Nat} {o : Oper} {v : Value} (ho : ops[i]? = some o) (hg : gv ops e o = some true) (hq : QOp P o e C v) (hd : o.dst = some d) (hN : Nat.blt d N = true)
    (h : MW P ops N C K r ((d, v) :: e)) : MW P ops N C K (i :: r) e :=
  fun hC a ha => ⟨o, v, ho, Or.inl ⟨gv_spec hg ha.ag, fun w hw => hq a w ha.ag hw⟩, h hC _ (hd ▸ ha.put (Nat.blt_eq.mp hN))⟩
theorem mw_q0 {K : Act → Prop} {i : Nat} {r : List Nat} {o : Oper} {v : Value} (ho : ops[i]? = some o) (hg : gv ops e o = some true) (hq : QOp P o e C v) (hd : o.dst = none)
    (h : MW P ops N C K r e) : MW P ops N C K (i :: r) e :=
  fun hC a ha => ⟨o, v, ho, Or.inl ⟨gv_spec hg ha.ag, fun w hw => hq a w ha.ag hw⟩, h hC _ (hd ▸ ha.put_none)⟩
/-- a test on whose outcome the region goes on -/
theorem mw_qb {K : Act → Prop} {i d : Nat} {r : List Nat} {o : Oper} {b : Bool} (ho : ops[i]? = some o) (hg : gv ops e o = some true) (hq : QOp P o e C (.bool b)) (hd : o.dst = some d) (hN : Nat.blt d N = true)
    (ht : b = true → MW P ops N C K r ((d, .bool true) :: e)) (hf : b = false → MW P ops N C K r ((d, .bool false) :: e)) : MW P ops N C K (i :: r) e := by
  cases b
  · exact mw_q ho hg hq hd hN (hf rfl)
  · exact mw_q ho hg hq hd hN (ht rfl)
theorem mw_qd {K : Act → Prop} {i d : Nat} {r : List Nat} {o : Oper} {p : Prop} [Decidable p] (ho : ops[i]? = some o) (hg : gv ops e o = some true) (hq : QOp P o e C (.bool (decide p))) (hd : o.dst = some d) (hN : Nat.blt d N = true)
    (ht : p → MW P ops N C K r ((d, .bool true) :: e)) (hf : ¬ p → MW P ops N C K r ((d, .bool false) :: e)) : MW P ops N C K (i :: r) e :=
  mw_qb ho hg hq hd hN (fun h => ht (of_decide_eq_true h)) (fun h => hf (of_decide_eq_false h))
theorem mw_skip {K : Act → Prop} {i d : Nat} {r : List Nat} {o : Oper} (ho : ops[i]? = some o) (hg : gv ops e o = some false) (hd : o.dst = some d) (hN : Nat.blt d N = true)
    (h : MW P ops N C K r ((d, undef) :: e)) : MW P ops N C K (i :: r) e :=
  fun hC _ ha => ⟨o, undef, ho, Or.inr ⟨gv_spec hg ha.ag, rfl⟩, h hC _ (hd ▸ ha.put (Nat.blt_eq.mp hN))⟩
theorem mw_skip0 {K : Act → Prop} {i : Nat} {r : List Nat} {o : Oper} (ho : ops[i]? = some o) (hg : gv ops e o = some false) (hd : o.dst = none)
    (h : MW P ops N C K r e) : MW P ops N C K (i :: r) e :=
  fun hC _ ha => ⟨o, undef, ho, Or.inr ⟨gv_spec hg ha.ag, rfl⟩, h hC _ (hd ▸ ha.put_none)⟩
theorem mw_nil {Q : Act → World → Prop} {l : List Stage} (h : RW P ops N Q C l e) : MW P ops N C (fun a' => ∀ w, C w → rtw P ops Q C l a' w) [] e := fun hC a ha w hw => h hC a w ha hw
theorem mw_sub {K : Act → Prop} {l : List Nat} {e' : Env} (hs : Env.sub e e') (h : MW P ops N C K l e') : MW P ops N C K l e := fun hC a ha => h hC a (ha.sub hs)
theorem rw_nil {Q : Act → World → Prop} (h : PT N e C Q) : RW P ops N Q C [] e := fun hC a w ha hw w1 h1 => h hC a w1 ha (hC w w1 hw h1)
/-- an effect: 'x' is what is not known ahead -/
theorem rw_e {Q : Act → World → Prop} {α : Type} {V : α → Value} {C' : α → World → Prop} {φ : α → Prop} {i d : Nat} {s : Bool} {ms : List Nat} {r : List Stage} {o : Oper} (ho : ops[i]? = some o)
    (hg : gv ops e o = some true) (he : EOp P o e C (fun v w' => ∃ x, v = V x ∧ φ x ∧ C' x w')) (hd : o.dst = some d) (hN : Nat.blt d N = true) (hC' : ∀ x, Cl (C' x)) (hs : s = true ∨ ∀ x w, C' x w → C w)
    (h : ∀ x, φ x → MW P ops N (C' x) (fun a' => ∀ w, C' x w → rtw P ops Q (C' x) r a' w) ms ((d, V x) :: e)) : RW P ops N Q C (⟨i, s, ms⟩ :: r) e :=
  fun hC a w ha hw w1 h1 => ⟨o, ho, gv_spec hg ha.ag, Oper.ex_mono (he a w1 ha.ag (hC w w1 hw h1)) fun v w' ⟨x, hv, hx, hw'⟩ =>
    ⟨C' x, hC' x, hw', hs.imp id (fun h => h x), mwalk_mono (fun _ h => h) (fun _ h => h w' hw') _ _ (h x hx (hC' x) _ (by rw [hv]; exact hd ▸ ha.put (Nat.blt_eq.mp hN)))⟩⟩
theorem rw_e0 {Q : Act → World → Prop} {α : Type} {V : α → Value} {C' : α → World → Prop} {φ : α → Prop} {i : Nat} {s : Bool} {ms : List Nat} {r : List Stage} {o : Oper} (ho : ops[i]? = some o)
    (hg : gv ops e o = some true) (he : EOp P o e C (fun v w' => ∃ x, v = V x ∧ φ x ∧ C' x w')) (hd : o.dst = none) (hC' : ∀ x, Cl (C' x)) (hs : s = true ∨ ∀ x w, C' x w → C w)
    (h : ∀ x, φ x → MW P ops N (C' x) (fun a' => ∀ w, C' x w → rtw P ops Q (C' x) r a' w) ms e) : RW P ops N Q C (⟨i, s, ms⟩ :: r) e :=
  fun hC a w ha hw w1 h1 => ⟨o, ho, gv_spec hg ha.ag, Oper.ex_mono (he a w1 ha.ag (hC w w1 hw h1)) fun v w' ⟨x, hv, hx, hw'⟩ =>
    ⟨C' x, hC' x, hw', hs.imp id (fun h => h x), mwalk_mono (fun _ h => h) (fun _ h => h w' hw') _ _ (h x hx (hC' x) _ (by rw [hv]; exact hd ▸ ha.put_none))⟩⟩

/-! ### a region in the text's order -/
def SW (P : Program) (ops : Array Oper) (N : Nat) (Q : Exit → Act → World → Prop) (C : World → Prop) (l : List Oper) (e : Env) : Prop := Cl C → ∀ a w, St N e a → C w → wpList P ops Q l a w
variable {Q : Exit → Act → World → Prop} {o : Oper} {rest : List Oper}
theorem sw_nil (h : PT N e C (Q .normal)) : SW P ops N Q C [] e := h
theorem sw_sub {e' : Env} {l : List Oper} (hs : Env.sub e e') (h : SW P ops N Q C l e') : SW P ops N Q C l e := fun hC a w ha hw => h hC a w (ha.sub hs) hw
theorem sw_q {d : Nat} {v : Value} (hg : gv ops e o = some true) (hq : QOp P o e C v) (hd : o.dst = some d) (hN : Nat.blt d N = true) (h : SW P ops N Q C rest ((d, v) :: e)) : SW P ops N Q C (o :: rest) e :=
  fun hC a w ha hw => by
    unfold wpList
    rw [gv_spec hg ha.ag]
    exact Or.inl (Oper.wp_of_qx (hq a w ha.ag hw) fun w' hw' => h hC _ w' (hd ▸ ha.put (Nat.blt_eq.mp hN)) (hC w w' hw hw'))
theorem sw_q0 {v : Value} (hg : gv ops e o = some true) (hq : QOp P o e C v) (hd : o.dst = none) (h : SW P ops N Q C rest e) : SW P ops N Q C (o :: rest) e :=
  fun hC a w ha hw => by
    unfold wpList
    rw [gv_spec hg ha.ag]
    exact Or.inl (Oper.wp_of_qx (hq a w ha.ag hw) fun w' hw' => h hC _ w' (hd ▸ ha.put_none) (hC w w' hw hw'))
theorem sw_qb {d : Nat} {b : Bool} (hg : gv ops e o = some true) (hq : QOp P o e C (.bool b)) (hd : o.dst = some d) (hN : Nat.blt d N = true)
    (ht : b = true → SW P ops N Q C rest ((d, .bool true) :: e)) (hf : b = false → SW P ops N Q C rest ((d, .bool false) :: e)) : SW P ops N Q C (o :: rest) e := by
  cases b
  · exact sw_q hg hq hd hN (hf rfl)
  · exact sw_q hg hq hd hN (ht rfl)
theorem sw_qd {d : Nat} {p : Prop} [Decidable p] (hg : gv ops e o = some true) (hq : QOp P o e C (.bool (decide p))) (hd : o.dst = some d) (hN : Nat.blt d N = true)
    (ht : p → SW P ops N Q C rest ((d, .bool true) :: e)) (hf : ¬ p → SW P ops N Q C rest ((d, .bool false) :: e)) : SW P ops N Q C (o :: rest) e :=
  sw_qb hg hq hd hN (fun h => ht (of_decide_eq_true h)) (fun h => hf (of_decide_eq_false h))
theorem sw_skip {d : Nat} (hg : gv ops e o = some false) (hd : o.dst = some d) (hN : Nat.blt d N = true) (h : SW P ops N Q C rest ((d, undef) :: e)) : SW P ops N Q C (o :: rest) e :=
  fun hC a w ha hw => by
    unfold wpList
    rw [gv_spec hg ha.ag]
    exact h hC _ w (hd ▸ ha.put (Nat.blt_eq.mp hN)) hw
theorem sw_skip0 (hg : gv ops e o = some false) (hd : o.dst = none) (h : SW P ops N Q C rest e) : SW P ops N Q C (o :: rest) e :=
  fun hC a w ha hw => by
    unfold wpList
    rw [gv_spec hg ha.ag]
    exact h hC _ w (hd ▸ ha.put_none) hw
theorem sw_e {α : Type} {V : α → Value} {C' : α → World → Prop} {φ : α → Prop} {d : Nat} (hg : gv ops e o = some true) (he : EOp P o e C (fun v w' => ∃ x, v = V x ∧ φ x ∧ C' x w')) (hd : o.dst = some d) (hN : Nat.blt d N = true)
    (hC' : ∀ x, Cl (C' x)) (h : ∀ x, φ x → SW P ops N Q (C' x) rest ((d, V x) :: e)) : SW P ops N Q C (o :: rest) e :=
  fun _ a w ha hw => by
    unfold wpList
    rw [gv_spec hg ha.ag]
    exact Or.inl (Oper.wp_of_ex (he a w ha.ag hw) fun v w' ⟨x, hv, hx, hw'⟩ => h x hx (hC' x) _ w' (by rw [hv]; exact hd ▸ ha.put (Nat.blt_eq.mp hN)) hw')
theorem sw_e0 {α : Type} {V : α → Value} {C' : α → World → Prop} {φ : α → Prop} (hg : gv ops e o = some true) (he : EOp P o e C (fun v w' => ∃ x, v = V x ∧ φ x ∧ C' x w')) (hd : o.dst = none)
    (hC' : ∀ x, Cl (C' x)) (h : ∀ x, φ x → SW P ops N Q (C' x) rest e) : SW P ops N Q C (o :: rest) e :=
  fun _ a w ha hw => by
    unfold wpList
    rw [gv_spec hg ha.ag]
    exact Or.inl (Oper.wp_of_ex (he a w ha.ag hw) fun v w' ⟨x, hv, hx, hw'⟩ => h x hx (hC' x) _ w' (by rw [hv]; exact hd ▸ ha.put_none) hw')

/-! ### code -/
def CT (P : Program) (N : Nat) (e : Env) (C : World → Prop) (c : Code) (Q : Exit → Act → World → Prop) : Prop := Cl C → ∀ a w, St N e a → C w → c.wp P Q a w
theorem ct_sub {c : Code} {e' : Env} (hs : Env.sub e e') (h : CT P N e' C c Q) : CT P N e C c Q := fun hC a w ha hw => h hC a w (ha.sub hs) hw
theorem ct_cls {c : Code} {C' : World → Prop} (hC' : Cl C') (hc : ∀ w, C w → C' w) (h : CT P N e C' c Q) : CT P N e C c Q := fun _ a w ha hw => h hC' a w ha (hc w hw)
theorem pt_sub {e' : Env} {R : Act → World → Prop} (hs : Env.sub e e') (h : PT N e' C R) : PT N e C R := fun hC a w ha hw => h hC a w (ha.sub hs) hw
theorem pt_cls {C' : World → Prop} {R : Act → World → Prop} (hC' : Cl C') (hc : ∀ w, C w → C' w) (h : PT N e C' R) : PT N e C R := fun _ a w ha hw => h hC' a w ha (hc w hw)
theorem ct_seq {x y : Code} (h : CT P N e C x (Exit.then (y.wp P Q) Q)) : CT P N e C (.seq x y) Q := fun hC a w ha hw => wp_seq (h hC a w ha hw)
theorem ct_skip (h : PT N e C (Q .normal)) : CT P N e C .skip Q := fun hC a w ha hw => wp_skip (h hC a w ha hw)
theorem ct_label {l : Nat} (h : PT N e C (Q .normal)) : CT P N e C (.label l) Q := fun hC a w ha hw => wp_label (h hC a w ha hw)
theorem ct_exit {i : Nat} (h : PT N e C (Q (.exit i))) : CT P N e C (.exit i) Q := fun hC a w ha hw => wp_exit (h hC a w ha hw)
theorem ct_ret (h : PT N e C (Q .ret)) : CT P N e C .ret Q := fun hC a w ha hw => wp_ret (h hC a w ha hw)
theorem ct_block {i : Nat} {c : Code} (h : CT P N e C c (Exit.inBlock i Q)) : CT P N e C (.block i c) Q := fun hC a w ha hw => wp_block (h hC a w ha hw)
theorem ct_t {c : Operand} {x y : Code} (hc : e.ev c = some (.bool true)) (h : CT P N e C x Q) : CT P N e C (.cond c x y) Q := fun hC a w ha hw => wp_cond_true (ha.ag.ev hc) (h hC a w ha hw)
theorem ct_f {c : Operand} {x y : Code} (hc : e.ev c = some (.bool false)) (h : CT P N e C y Q) : CT P N e C (.cond c x y) Q := fun hC a w ha hw => wp_cond_false (ha.ag.ev hc) (h hC a w ha hw)
theorem ct_ifb {c : Operand} {x y : Code} {t : Bool} (hc : e.ev c = some (.bool t)) (ht : t = true → CT P N e C x Q) (hf : t = false → CT P N e C y Q) : CT P N e C (.cond c x y) Q := by
  cases t
  · exact ct_f hc (hf rfl)
  · exact ct_t hc (ht rfl)
theorem ct_if {c : Operand} {x y : Code} {p : Prop} [Decidable p] (hc : e.ev c = some (.bool (decide p))) (ht : p → CT P N e C x Q) (hf : ¬ p → CT P N e C y Q) : CT P N e C (.cond c x y) Q :=
  ct_ifb hc (fun h => ht (of_decide_eq_true h)) (fun h => hf (of_decide_eq_false h))
theorem ct_region {i : Nat} (h : SW P ops N Q C ops.toList e) : CT P N e C (.region i ops false) Q := fun hC a w ha hw => wp_region_list (h hC a w ha hw)
theorem ct_draw {i : Nat} (T : List Nat) (pend : List Nat) (l : List Stage) (hm : P.follows .mixedOrders = true) (hlook : lookOk .any ops T pend l = true)
    (h : MW P ops N C (fun a' => ∀ w, C w → rtw P ops (fun a w => Q .normal a w) C l a' w) pend e) : CT P N e C (.region i ops true) Q :=
  fun hC a _ ha hw => wp_region_script T pend l hm hlook hC hw (h hC a ha)
/-- ways meet again -/
theorem ct_join {β : Type} {c y : Code} (E : β → Env) (D : β → World → Prop) (φ : β → Prop) (hD : ∀ x, Cl (D x)) (h1 : CT P N e C c (Exit.then (fun a w => ∃ x, φ x ∧ St N (E x) a ∧ D x w) Q))
    (h2 : ∀ x, φ x → CT P N (E x) (D x) y Q) : CT P N e C (.seq c y) Q :=
  fun hC a w ha hw => wp_seq (wp_mono (h1 hC a w ha hw) fun ex a w hq => by
    cases ex <;> first | exact hq | (obtain ⟨x, hx, h3, h4⟩ := hq; exact h2 x hx (hD x) a w h3 h4))
theorem pt_join {β : Type} {E : β → Env} {D : β → World → Prop} {φ : β → Prop} (x : β) (hx : φ x) (hs : Env.sub e (E x)) (hw : ∀ w, C w → D x w) : PT N e C ((Exit.then (fun a w => ∃ x, φ x ∧ St N (E x) a ∧ D x w) Q) .normal) :=
  fun _ _ w ha hc => ⟨x, hx, ha.sub hs, hw w hc⟩
/-- a test of several parts: what it comes to -/
theorem ct_test {c y : Code} (d : Nat) (p : Prop) [Decidable p] (h1 : CT P N e C c (fun ex a w => ex = .normal ∧ St N ((d, .bool (decide p)) :: e) a ∧ C w)) (h2 : CT P N ((d, .bool (decide p)) :: e) C y Q) : CT P N e C (.seq c y) Q :=
  fun hC a w ha hw => wp_seq (wp_mono (h1 hC a w ha hw) fun ex a w ⟨hx, h3, h4⟩ => by subst hx; exact h2 hC a w h3 h4)
def freshB (e : Env) : Env → Bool
  | [] => true
  | (k, _) :: r => (match e.lk k with | none => true | some _ => false) && freshB e r
theorem Env.sub_fresh {e : Env} : ∀ {l : Env}, freshB e l = true → ∀ t v, e.lk t = some v → (l ++ e).lk t = some v
  | [], _, t, v, h => h
  | (k, u) :: r, hf, t, v, h => by
    simp only [freshB, Bool.and_eq_true] at hf
    by_cases hk : k = t
    · subst hk; rw [h] at hf; cases hf.1
    · rw [List.cons_append, Env.lk_cons_other hk]; exact Env.sub_fresh hf.2 t v h
theorem pt_test {e' : Env} {d : Nat} {p : Prop} [Decidable p] (n : Nat) (b : Bool) (hn : e'.drop n = e) (hf : freshB e (e'.take n) = true) (hd : e'.lk d = some (.bool b)) (hb : decide p = b) :
    PT N e' C ((fun ex a w => ex = Exit.normal ∧ St N ((d, .bool (decide p)) :: e) a ∧ C w) .normal) :=
  fun _ a w ha hw => ⟨rfl, ⟨ha.size, ha.defers, fun t v ht => by
    by_cases hdt : d = t
    · subst hdt; rw [Env.lk_cons_same] at ht; cases ht; rw [hb]; exact ha.ag d _ hd
    · rw [Env.lk_cons_other hdt] at ht
      refine ha.ag t v ?_
      have := Env.sub_fresh hf t v ht
      rwa [← hn, List.take_append_drop] at this⟩, hw⟩
theorem wp_loop_x {α : Type} {c : Code} {a : Act} {w : World} (I : α → Act → World → Prop) (μ : α → Nat) (x : α) (h₀ : I x a w)
    (round : ∀ x a w, I x a w → c.wp P (Exit.then (fun a' w' => ∃ y, I y a' w' ∧ μ y < μ x) Q) a w) : (Code.loop c).wp P Q a w := by
  intro b k cs
  have key : ∀ n x a w, μ x = n → I x a w → ∃ e a' w', Q e a' w' ∧ Arrives P (lone (b.at a (.code c :: .inLoop c :: k)) cs w) b k cs e a' w' := by
    intro n
    induction n using Nat.strongRecOn with
    | _ n ih =>
      intro x a w hn hI
      obtain ⟨e, a₁, w₁, hq, harr⟩ := round x a w hI b (.inLoop c :: k) cs
      cases e with
      | normal =>
        obtain ⟨y, hI₁, hlt⟩ := hq
        obtain ⟨e₂, a₂, w₂, hq₂, harr₂⟩ := ih (μ y) (hn ▸ hlt) y a₁ w₁ rfl hI₁
        exact ⟨e₂, a₂, w₂, hq₂, .of_steps (Steps.trans harr (.one step_inLoop)) harr₂⟩
      | exit id => exact ⟨_, a₁, w₁, hq, .pass (x := .inLoop c) rfl (fun _ _ => .inl (by simp)) harr⟩
      | goto l => exact ⟨_, a₁, w₁, hq, .pass (x := .inLoop c) rfl (fun _ _ => .inl (by simp)) harr⟩
      | ret => exact ⟨_, a₁, w₁, hq, .pass (x := .inLoop c) rfl (fun _ _ => .inl (by simp)) harr⟩
      | panic ch => exact ⟨_, a₁, w₁, hq, .pass (x := .inLoop c) rfl (fun _ _ => .inl (by simp)) harr⟩
      | outgrown => exact ⟨_, a₁, w₁, hq, .pass (x := .inLoop c) rfl (fun _ _ => .inl (by simp)) harr⟩
  obtain ⟨e, a', w', hq, harr⟩ := key _ x a w rfl h₀
  exact ⟨e, a', w', hq, .of_steps (.one step_loop) harr⟩
theorem ct_loop {α : Type} {c : Code} (I : α → Env) (D : α → World → Prop) (pre : α → Prop) (μ : α → Nat) (x : α) (hDc : ∀ x, Cl (D x)) (hx : pre x) (hs : Env.sub e (I x)) (hD : ∀ w, C w → D x w)
    (round : ∀ x, pre x → CT P N (I x) (D x) c (Exit.then (fun a w => ∃ y, (pre y ∧ St N (I y) a ∧ D y w) ∧ μ y < μ x) Q)) : CT P N e C (.loop c) Q :=
  fun _ _ w ha hw => wp_loop_x (fun x a w => pre x ∧ St N (I x) a ∧ D x w) μ x ⟨hx, ha.sub hs, hD w hw⟩ fun x a w ⟨h1, h2, h3⟩ => round x h1 (hDc x) a w h2 h3
/-- the round's end -/
theorem pt_round {α : Type} {I : α → Env} {D : α → World → Prop} {pre : α → Prop} {μ : α → Nat} {x : α} (y : α) (hy : pre y) (hμ : μ y < μ x) (hs : Env.sub e (I y)) (hD : ∀ w, C w → D y w) :
    PT N e C ((Exit.then (fun a w => ∃ y, (pre y ∧ St N (I y) a ∧ D y w) ∧ μ y < μ x) Q) .normal) := fun _ _ w ha hw => ⟨y, ⟨hy, ha.sub hs, hD w hw⟩, hμ⟩
theorem pt_then {y : Code} (h : CT P N e C y Q) : PT N e C ((Exit.then (y.wp P Q) Q) .normal) := h
theorem pt_then_exit {K : Act → World → Prop} {i : Nat} (h : PT N e C (Q (.exit i))) : PT N e C ((Exit.then K Q) (.exit i)) := h
theorem pt_then_ret {K : Act → World → Prop} (h : PT N e C (Q .ret)) : PT N e C ((Exit.then K Q) .ret) := h
theorem pt_block_hit {i : Nat} (h : PT N e C (Q .normal)) : PT N e C ((Exit.inBlock i Q) (.exit i)) := fun hC a w ha hw => by
  simp only [Exit.inBlock, if_true]; exact h hC a w ha hw
theorem pt_block_miss {i j : Nat} (hij : Nat.beq j i = false) (h : PT N e C (Q (.exit j))) : PT N e C ((Exit.inBlock i Q) (.exit j)) := fun hC a w ha hw => by
  have : ¬ j = i := fun h => by subst h; simp at hij
  simp only [Exit.inBlock, this, if_false]; exact h hC a w ha hw
theorem pt_block_normal {i : Nat} (h : PT N e C (Q .normal)) : PT N e C ((Exit.inBlock i Q) .normal) := h
theorem pt_block_ret {i : Nat} (h : PT N e C (Q .ret)) : PT N e C ((Exit.inBlock i Q) .ret) := h

/-! ### a call, and its end -/
def argEnv : Nat → List Value → Env
  | _, [] => []
  | k, v :: r => (k, v) :: argEnv (k + 1) r
theorem argEnv_lk : ∀ (l : List Value) (k t : Nat) (v : Value), (argEnv k l).lk t = some v → k ≤ t ∧ l[t - k]? = some v
  | [], _, _, _, h => by cases h
  | u :: r, k, t, v, h => by
    by_cases hk : k = t
    · subst hk; rw [argEnv, Env.lk_cons_same] at h; cases h; simp
    · rw [argEnv, Env.lk_cons_other hk] at h
      obtain ⟨h1, h2⟩ := argEnv_lk r (k + 1) t v h
      refine ⟨by omega, ?_⟩
      rw [show t - k = (t - (k + 1)) + 1 from by omega]; simpa using h2
theorem calls_ct {f : FuncId} {fn : Func} {c : Code} {args : List Value} {R : Ending → World → Prop} {w : World} (hf : P.funcs[f]? = some fn) (hb : fn.body = some c) (hN : fn.ntmps = N) (hle : Nat.ble args.length N = true) (hC : Cl C) (hw : C w)
    (h : CT P N (argEnv 0 args) C c (bodyPost P fn R)) : Calls P f args.toArray w R := by
  have hle := Nat.le_of_ble_eq_true hle
  refine calls_of_wp hf hb (h hC _ w ⟨?_, rfl, fun t v ht => ?_⟩ hw)
  · simp [hN]; omega
  · obtain ⟨_, h2⟩ := argEnv_lk args 0 t v ht
    simp only [Nat.sub_zero] at h2
    have hlt : t < args.length := (List.getElem?_eq_some_iff.1 h2).1
    simp [Array.getElem?_append, hlt]
    simpa [hlt] using h2
theorem pt_res {fn : Func} {R : Ending → World → Prop} {v : Value} (hv : ∀ a w, Ag e a → C w → (results fn a.tmps).run P w = .ok v w) (hR : ∀ w, C w → R (.returned v) w) : PT N e C (bodyPost P fn R .ret) :=
  fun _ a w ha hw => ⟨ha.defers, v, hv a w ha.ag hw, hR w hw⟩
theorem pt_res_normal {fn : Func} {R : Ending → World → Prop} {v : Value} (hv : ∀ a w, Ag e a → C w → (results fn a.tmps).run P w = .ok v w) (hR : ∀ w, C w → R (.returned v) w) : PT N e C (bodyPost P fn R .normal) :=
  fun _ a w ha hw => ⟨ha.defers, v, hv a w ha.ag hw, hR w hw⟩
theorem res_1 {fn : Func} {t : Nat} {v : Value} (hr : fn.results = #[.tmp t]) (ht : e.lk t = some v) : ∀ a w, Ag e a → C w → (results fn a.tmps).run P w = .ok v w := fun a w ha _ => by
  rw [results_tmp hr]; have := ha t v ht; simp [Array.getD_eq_getD_getElem?, this]
theorem res_0 {fn : Func} (hr : fn.results = #[]) : ∀ a w, Ag e a → C w → (results fn a.tmps).run P w = .ok (.tuple #[]) w := fun a w _ _ => results_none hr a.tmps P w
theorem res_2 {fn : Func} {t u : Nat} {v v' : Value} (hr : fn.results = #[.tmp t, .tmp u]) (ht : e.lk t = some v) (hu : e.lk u = some v') : ∀ a w, Ag e a → C w → (results fn a.tmps).run P w = .ok (.tuple #[v, v']) w := fun a w ha _ => by
  rw [results_tmp2 hr]; have h1 := ha t v ht; have h2 := ha u v' hu; simp [Array.getD_eq_getD_getElem?, h1, h2]
theorem res_3 {fn : Func} {t u s : Nat} {v v' v'' : Value} (hr : fn.results = #[.tmp t, .tmp u, .tmp s]) (ht : e.lk t = some v) (hu : e.lk u = some v') (hs : e.lk s = some v'') : ∀ a w, Ag e a → C w → (results fn a.tmps).run P w = .ok (.tuple #[v, v', v'']) w := fun a w ha _ => by
  have h1 := ha t v ht; have h2 := ha u v' hu; have h3 := ha s v'' hs
  simp [results, hr, Array.getD_eq_getD_getElem?, h1, h2, h3]
theorem res_4 {fn : Func} {t u s r : Nat} {v v' v'' v3 : Value} (hr : fn.results = #[.tmp t, .tmp u, .tmp s, .tmp r]) (ht : e.lk t = some v) (hu : e.lk u = some v') (hs : e.lk s = some v'') (hr' : e.lk r = some v3) : ∀ a w, Ag e a → C w → (results fn a.tmps).run P w = .ok (.tuple #[v, v', v'', v3]) w := fun a w ha _ => by
  have h1 := ha t v ht; have h2 := ha u v' hu; have h3 := ha s v'' hs; have h4 := ha r v3 hr'
  simp [results, hr, Array.getD_eq_getD_getElem?, h1, h2, h3, h4]
end
end Go.GX
