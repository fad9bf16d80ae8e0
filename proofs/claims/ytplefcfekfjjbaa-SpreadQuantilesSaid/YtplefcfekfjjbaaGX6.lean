/- Structs of whole numbers: equality, literals, results in cells: no conditions beyond those each theorem states. -/
import Derived.Test.YtplefcfekfjjbaaGX5
import Derived.Laws.StructEq
set_option linter.unusedVariables false
set_option linter.unusedSimpArgs false
namespace Go.GX
open Go
/-! ### values that are rows of ints -/
def iv (l : List Int) : List Value := l.map fun x => .int .i64 x
mutual
/-- how many ints a value of the type is, all of them 'int', whatever its shape; none: it is something else -/
def flatT (P : Program) : Nat → TypeId → Option Nat
  | 0, _ => none
  | d + 1, t => match P.underlying t with
    | some (.int _) => some 1
    | some (.struct fs) => bif P.stoodInHeld t then none else flatF P d fs.toList 0
    | some (.array n el) => match flatT P d el with
      | some k => bif sizeIs P el k then some (n * k) else none
      | none => none
    | _ => none
def flatF (P : Program) : Nat → List Field → Nat → Option Nat
  | _, [], at_ => some at_
  | 0, _ :: _, _ => none
  | d + 1, f :: r, at_ => match flatT P d f.type with
    | some k => bif f.name != "_" && Nat.beq f.offset at_ && sizeIs P f.type k then flatF P d r (at_ + k) else none
    | none => none
end
def flatV (P : Program) (t : TypeId) (l : List Int) : Value := match P.underlying t with
  | some (.int _) => .int .i64 (l.headD 0)
  | _ => .agg (iv l).toArray
variable {P : Program}
theorem run_part_flat {t : TypeId} {d k off : Nat} {l : List Int} (h : flatT P d t = some k) (hs : sizeIs P t k = true) (hl : off + k ≤ l.length) (w : World) :
    (part t (iv l).toArray off).run P w = .ok (flatV P t ((l.drop off).take k)) w := by
  cases d with
  | zero => simp [flatT] at h
  | succ d =>
    unfold flatT at h
    unfold part flatV
    rw [Sem.run_bind]
    have hext : ((iv l).toArray.extract off (off + k)) = (iv ((l.drop off).take k)).toArray := by
      apply Array.ext'
      simp [iv, List.map_take, List.map_drop, List.take_drop]
    split at h
    · rename_i kk hu
      cases h
      have h1 : (iv l)[off]? = some (.int .i64 (((l.drop off).take 1).headD 0)) := by
        have : off < l.length := by omega
        rw [iv, List.getElem?_map, List.getElem?_eq_getElem this, List.drop_eq_getElem_cons this]; rfl
      rw [run_isAgg hu]; simp [aggD, h1, hu]
    · rename_i fs hu
      rw [run_isAgg hu]; simp only [aggD, hu, Result.andThen_ok, if_true, Sem.run_bind, run_size hs, Sem.run_pure, hext]
    · rename_i n el hu
      rw [run_isAgg hu]; simp only [aggD, hu, Result.andThen_ok, if_true, Sem.run_bind, run_size hs, Sem.run_pure, hext]
    · cases h

theorem take_ext {a b : List Int} {n m : Nat} (h : a.take n = b.take n) (h2 : (a.drop n).take m = (b.drop n).take m) : a.take (n + m) = b.take (n + m) := by
  rw [List.take_add, List.take_add, h, h2]
theorem take_inv {a b : List Int} {n m : Nat} (h : a.take (n + m) = b.take (n + m)) : a.take n = b.take n ∧ (a.drop n).take m = (b.drop n).take m := by
  have h1 := congrArg (List.take n) h
  have h2 := congrArg (List.drop n) h
  rw [List.take_take, List.take_take, Nat.min_eq_left (by omega)] at h1
  rw [List.drop_take, List.drop_take, Nat.add_sub_cancel_left] at h2
  exact ⟨h1, h2⟩

theorem flatF_le : ∀ (d : Nat) (fs : List Field) (at_ k : Nat), flatF P d fs at_ = some k → at_ ≤ k
  | d, [], at_, k, h => by cases d <;> simp [flatF] at h <;> omega
  | 0, _ :: _, _, _, h => by simp [flatF] at h
  | d + 1, f :: r, at_, k, h => by
    unfold flatF at h
    split at h
    · rename_i kf hkf
      cases hc : (f.name != "_" && Nat.beq f.offset at_ && sizeIs P f.type kf) with
      | false => rw [hc] at h; cases h
      | true => rw [hc] at h; have := flatF_le d r _ k h; omega
    · cases h
mutual
theorem eq_flat : ∀ (d : Nat) (t : TypeId) (k : Nat), flatT P d t = some k → ∀ (d' : Nat), d ≤ d' → ∀ (a b : List Int), a.length = k → b.length = k → ∀ w, (Op.equalIn d' t (flatV P t a) (flatV P t b)).run P w = .ok (decide (a = b)) w
  | 0, t, k, h, _, _, _, _, _, _, _ => by simp [flatT] at h
  | d + 1, t, k, h, d', hd, a, b, ha, hb, w => by
    obtain ⟨d', rfl⟩ : ∃ m, d' = m + 1 := ⟨d' - 1, by omega⟩
    unfold flatT at h
    unfold flatV
    split at h
    · rename_i kk hu
      cases h
      obtain ⟨x, rfl⟩ := List.length_eq_one_iff.1 ha
      obtain ⟨y, rfl⟩ := List.length_eq_one_iff.1 hb
      rw [hu]
      simp only [List.headD_cons]
      rw [run_equalIn_int w d' t _ _ x y hu]
      congr 1
      by_cases hxy : x = y <;> simp [hxy]
    · rename_i fs hu
      cases hst : P.stoodInHeld t with
      | true => rw [hst] at h; cases h
      | false =>
        rw [hst] at h
        rw [hu]
        have hfs : P.fieldsOf t = fs := by simp [Program.fieldsOf, hu]
        simp only []
        rw [run_equalIn_agg w d' t _ _ (by rw [hfs]; exact hu) hst, hfs, eq_fields d fs.toList 0 k h d' (by omega) a b ha hb w]
        simp
    · rename_i n el hu
      split at h
      · rename_i ke hke
        cases hsz : sizeIs P el ke with
        | false => rw [hsz] at h; cases h
        | true =>
          rw [hsz] at h
          cases h
          rw [hu]
          simp only []
          unfold Op.equalIn
          have key : ∀ (m : Nat) (j : Nat), j + m = n → a.take (j * ke) = b.take (j * ke) →
              (forIn (List.range' j m) ((none, ()) : Option Bool × Unit) fun i r => (do
                if (!(← Op.equalIn d' el (← part el (iv a).toArray (i * ke)) (← part el (iv b).toArray (i * ke)))) = true then pure (ForInStep.done (some false, ())) else pure (ForInStep.yield (none, ())) : Sem (ForInStep (Option Bool × Unit)))).run P w =
                .ok (if a = b then (none, ()) else (some false, ())) w := by
            intro m
            induction m with
            | zero =>
              intro j hj hp
              have hj' : j = n := by omega
              subst hj'
              have hab : a = b := by
                rw [List.take_of_length_le (by omega), List.take_of_length_le (by omega)] at hp; exact hp
              simp [hab]
            | succ m ih =>
              intro j hj hp
              have hle : (j + 1) * ke ≤ n * ke := Nat.mul_le_mul_right _ (by omega)
              have hsum : (j + 1) * ke = j * ke + ke := Nat.succ_mul j ke
              simp only [List.range'_succ, List.forIn_cons, Sem.run_bind]
              rw [run_part_flat hke hsz (by omega), Result.andThen_ok, run_part_flat hke hsz (by omega), Result.andThen_ok]
              rw [eq_flat d el ke hke d' (by omega) _ _ (by simp; omega) (by simp; omega) w, Result.andThen_ok]
              by_cases he : (a.drop (j * ke)).take ke = (b.drop (j * ke)).take ke
              · have := ih (j + 1) (by omega) (by rw [hsum]; exact take_ext hp he)
                simp only [he, decide_true, Bool.not_true, Bool.false_eq_true, if_false, Sem.run_pure, Result.andThen_ok]
                exact this
              · have hne : a ≠ b := fun h => he (by rw [h])
                simp [he, hne]
          have h0 := key n 0 (by omega) (by simp)
          simp only [Sem.run_bind, run_underlying hu, Result.andThen_ok, run_size hsz, Std.Legacy.Range.forIn_eq_forIn_range', Std.Legacy.Range.size]
          rw [show (n - 0 + 1 - 1) / 1 = n from by omega, h0, Result.andThen_ok]
          by_cases hab : a = b <;> simp [hab]
      · cases h
    · cases h
theorem eq_fields : ∀ (d : Nat) (fs : List Field) (at_ k : Nat), flatF P d fs at_ = some k → ∀ (d' : Nat), d ≤ d' → ∀ (a b : List Int), a.length = k → b.length = k → ∀ w,
    (Op.eqFields d' (iv a).toArray (iv b).toArray fs).run P w = .ok (decide ((a.drop at_) = (b.drop at_))) w
  | d, [], at_, k, h, d', _, a, b, ha, hb, w => by
    have : k = at_ := by cases d <;> simp [flatF] at h <;> omega
    subst this
    simp [Op.eqFields, ← ha]
    rw [ha, ← hb]; simp
  | 0, _ :: _, _, _, h, _, _, _, _, _, _, _ => by simp [flatF] at h
  | d + 1, f :: r, at_, k, h, d', hd, a, b, ha, hb, w => by
    unfold flatF at h
    split at h
    · rename_i kf hkf
      cases hc : (f.name != "_" && Nat.beq f.offset at_ && sizeIs P f.type kf) with
      | false => rw [hc] at h; cases h
      | true =>
        rw [hc] at h
        simp only [cond_true] at h
        simp only [Bool.and_eq_true] at hc
        obtain ⟨⟨hn, ho⟩, hs⟩ := hc
        have ho' : f.offset = at_ := Nat.eq_of_beq_eq_true ho
        have hle := flatF_le d r (at_ + kf) k h
        have h2 := eq_fields d r (at_ + kf) k h d' (by omega) a b ha hb w
        have hn' : f.name ≠ "_" := by simpa using hn
        rw [Op.eqFields, if_pos hn']
        simp only [Sem.run_bind, ho']
        rw [run_part_flat hkf hs (by omega), Result.andThen_ok, run_part_flat hkf hs (by omega), Result.andThen_ok]
        rw [eq_flat d f.type kf hkf d' (by omega) _ _ (by simp; omega) (by simp; omega) w, Result.andThen_ok]
        have hsplit : ∀ l : List Int, l.drop at_ = (l.drop at_).take kf ++ l.drop (at_ + kf) := fun l => by
          rw [← List.drop_drop, List.take_append_drop]
        by_cases he : (a.drop at_).take kf = (b.drop at_).take kf
        · simp only [he, decide_true, Bool.not_true, Bool.false_eq_true, if_false]
          rw [h2]
          congr 1
          have : (a.drop at_ = b.drop at_) ↔ (a.drop (at_ + kf) = b.drop (at_ + kf)) := by
            rw [hsplit a, hsplit b, he]
            exact List.append_right_inj _
          simp [this]
        · have : ¬ a.drop at_ = b.drop at_ := fun h => he (by rw [h])
          simp [he, this]
    · cases h
end
@[irreducible] def eqTyOk (P : Program) (t : TypeId) (k : Nat) : Bool := (match flatT P 40 t with | some n => Nat.beq n k | none => false) && !P.eqGuardType P.depth t && (match P.underlying t with | some (.int _) => false | _ => true)
/-- the values of a literal's parts -/
def evps (e : Env) : List (Nat × Operand) → Option (List (Nat × Value))
  | [] => some []
  | (i, x) :: r => match e.ev x with
    | some v => match evps e r with
      | some vs => some ((i, v) :: vs)
      | none => none
    | none => none
theorem evps_map {a : Act} {e : Env} (ha : Ag e a) : ∀ {xs : List (Nat × Operand)} {vs : List (Nat × Value)}, evps e xs = some vs → xs.map (fun p => (p.1, a.eval p.2)) = vs
  | [], vs, h => by simp [evps] at h; simp [h]
  | (i, x) :: r, vs, h => by
    unfold evps at h
    split at h
    · rename_i v hv
      split at h
      · rename_i vs' hvs
        cases h
        simp [ha.ev hv, evps_map ha hvs]
      · cases h
    · cases h
section
variable {e : Env} {C : World → Prop} {dst : Option Tmp} {ty : TypeId} {pos : String} {aft : Array Edge} {g : Option (Nat × Bool)} {t t' : TypeId} {x y : Operand}
theorem run_eq_flat {k : Nat} {a b : List Int} (h : eqTyOk P t k = true) (ha : a.length = k) (hb : b.length = k) (w : World) :
    (binOp .eql t (.agg (iv a).toArray) (.agg (iv b).toArray)).run P w = .ok (.bool (decide (a = b))) w ∧ (binOp .neq t (.agg (iv a).toArray) (.agg (iv b).toArray)).run P w = .ok (.bool (decide (a ≠ b))) w := by
  unfold eqTyOk at h
  simp only [Bool.and_eq_true] at h
  obtain ⟨⟨h1, _⟩, h3⟩ := h
  split at h1
  · rename_i n hn
    have hnk : n = k := Nat.eq_of_beq_eq_true h1
    subst hnk
    have h4 := eq_flat 40 t n hn 10000 (by omega) a b ha hb w
    have hv : ∀ l, flatV P t l = .agg (iv l).toArray := fun l => by
      unfold flatV
      split
      · rename_i kk hu; rw [hu] at h3; simp at h3
      · rfl
    rw [hv, hv] at h4
    rw [run_eql_struct, run_neq_struct, h4]
    exact ⟨rfl, by simp [decide_not]⟩
  · cases h1
/-- '==' on values that are rows of ints -/
theorem q_eqf {k : Nat} {a b : List Int} (hx : e.ev x = some (.agg (iv a).toArray)) (hy : e.ev y = some (.agg (iv b).toArray)) (h : eqTyOk P t k = true) (ha : a.length = k) (hb : b.length = k) :
    QOp P ⟨dst, .binOp .eql t x y t', ty, pos, aft, g⟩ e C (.bool (decide (a = b))) :=
  q_bin hx hy (fun w => run_eqGuard_agg w _ t x y _ _ (by unfold eqTyOk at h; simp only [Bool.and_eq_true, Bool.not_eq_true'] at h; exact h.1.2)) fun w => (run_eq_flat h ha hb w).1
theorem q_nef {k : Nat} {a b : List Int} (hx : e.ev x = some (.agg (iv a).toArray)) (hy : e.ev y = some (.agg (iv b).toArray)) (h : eqTyOk P t k = true) (ha : a.length = k) (hb : b.length = k) :
    QOp P ⟨dst, .binOp .neq t x y t', ty, pos, aft, g⟩ e C (.bool (decide (a ≠ b))) :=
  q_bin hx hy (fun w => run_eqGuard_agg w _ t x y _ _ (by unfold eqTyOk at h; simp only [Bool.and_eq_true, Bool.not_eq_true'] at h; exact h.1.2)) fun w => (run_eq_flat h ha hb w).2
/-- a struct or an array built out of parts: by Lean's own look -/
theorem q_build {parts : Array (Nat × Operand)} {vs : List (Nat × Value)} {v : Value} (hv : evps e parts.toList = some vs) (h : ∀ w, (Instr.build t vs.toArray).run P w = .ok v w) : QOp P ⟨dst, .build t parts, ty, pos, aft, g⟩ e C v := q_run fun a w ha _ => by
  have h1 : parts.map (fun p => (p.1, a.eval p.2)) = vs.toArray := by
    rw [← evps_map ha hv]
    apply Array.ext'
    simp
  have h2 : (execOp a.eval ⟨dst, .build t parts, ty, pos, aft, g⟩) = (do pure (.value (← Instr.build t (parts.map fun p => (p.1, a.eval p.2))))) := rfl
  rw [h2, h1, Sem.run_bind, h]; rfl
/-! ### results that lie in cells -/
theorem run_cellres {t : TypeId} {d : TypeDesc} {ad : Addr} {vs : List Value} {n : Nat} {w : World} (ht : P.underlying t = some d) (hd : aggD d = true) (hn : sizeIs P t n = true) (hv : vs.length = n) (h : ∀ j v, vs[j]? = some v → w.cell? (ad.add j) = some v) :
    (loadVar t ad).run P w = .ok (.agg vs.toArray) w := by
  have hl := run_loadCells_list (P := P) (w := w) ad vs h
  rw [hv] at hl
  simp [loadVar, run_isAgg ht, hd, run_size hn, hl]
theorem res_c1 {fn : Func} {a t : Nat} {d : TypeDesc} {ad : Addr} {vs : List Value} {n : Nat} (hr : fn.results = #[.cell a t]) (ha : e.lk a = some (.pointer (some ad))) (ht : P.underlying t = some d) (hd : aggD d = true) (hn : sizeIs P t n = true) (hv : vs.length = n)
    (h : LDs C ad vs) : ∀ a w, Ag e a → C w → (results fn a.tmps).run P w = .ok (.agg vs.toArray) w := fun b w hb hw => by
  have h1 := hb a _ ha
  have h2 := run_cellres (P := P) (w := w) (ad := ad) ht hd hn hv (fun j v hj => h j v hj w hw)
  simp [results, hr, Array.getD_eq_getD_getElem?, h1, asAddr, h2]
theorem res_c3 {fn : Func} {a t u s : Nat} {d : TypeDesc} {ad : Addr} {vs : List Value} {n : Nat} {v v' : Value} (hr : fn.results = #[.cell a t, .tmp u, .tmp s]) (ha : e.lk a = some (.pointer (some ad))) (ht : P.underlying t = some d) (hd : aggD d = true) (hn : sizeIs P t n = true) (hv : vs.length = n)
    (h : LDs C ad vs) (hu : e.lk u = some v) (hs : e.lk s = some v') : ∀ a w, Ag e a → C w → (results fn a.tmps).run P w = .ok (.tuple #[.agg vs.toArray, v, v']) w := fun b w hb hw => by
  have h1 := hb a _ ha
  have h3 := hb u _ hu
  have h4 := hb s _ hs
  have h2 := run_cellres (P := P) (w := w) (ad := ad) ht hd hn hv (fun j v hj => h j v hj w hw)
  simp [results, hr, Array.getD_eq_getD_getElem?, h1, asAddr, h2, h3, h4]
end
end Go.GX
