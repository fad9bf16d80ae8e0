/- Slices that are made, copied, appended to; strings and bytes: no conditions beyond those each theorem states. -/
import Derived.Test.YtplefcfekfjjbaaGX7
import Derived.Lib.ConvBytes
import Derived.Laws.BytesArg
set_option linter.unusedVariables false
set_option linter.unusedSimpArgs false
namespace Go.GX
open Go
section
variable {P : Program} {e : Env} {C : World → Prop} {B : Base} {l : List (Nat × Obj)} {dst : Option Tmp} {ty : TypeId} {pos : String} {aft : Array Edge} {g : Option (Nat × Bool)} {t t' : TypeId} {x y z : Operand}
/-! ### slices of arrays and of slices -/
theorem q_sliceA {n sz : Nat} {A : Addr} {lo hi : Int} {k k' : IntKind} {el : TypeId} (hx : e.ev x = some (.pointer (some A))) (ht : P.underlying t = some (.array n el)) (hz : sizeIs P el sz = true) (hl : e.ev y = some (.int k lo)) (hh : e.ev z = some (.int k' hi)) (h : 0 ≤ lo ∧ lo ≤ hi ∧ hi ≤ (n : Int)) :
    QOp P ⟨dst, .slice t x (some y) (some z) none, ty, pos, aft, g⟩ e C (.slice (some (if n = lo.toNat then A else A.add (lo.toNat * sz))) (hi.toNat - lo.toNat) (n - lo.toNat)) := q_run fun a w ha _ => by
  have h1 : 0 ≤ hi := by omega
  have h2 : lo ≤ max hi 0 := by omega
  simp [execOp, ha.ev hx, ha.ev hl, ha.ev hh, Instr.sliceAt, Instr.sureAddr, run_underlying ht, Instr.sliceBounds, Instr.sliceBound, asIntOf, h.1, h.2.2, h1, h2, run_size hz]
theorem q_sliceA_hi {n sz : Nat} {A : Addr} {hi : Int} {k' : IntKind} {el : TypeId} (hx : e.ev x = some (.pointer (some A))) (ht : P.underlying t = some (.array n el)) (hz : sizeIs P el sz = true) (hh : e.ev z = some (.int k' hi)) (h : 0 ≤ hi ∧ hi ≤ (n : Int)) :
    QOp P ⟨dst, .slice t x none (some z) none, ty, pos, aft, g⟩ e C (.slice (some A) hi.toNat n) := q_run fun a w ha _ => by
  simp [execOp, ha.ev hx, ha.ev hh, Instr.sliceAt, Instr.sureAddr, run_underlying ht, Instr.sliceBounds, Instr.sliceBound, asIntOf, h.1, h.2, run_size hz, Addr.add]
/-! ### copy -/
theorem e_copy (i : Nat) {b o n sz dl dc sl sc : Nat} {cs cs' vs : List Value} {u : TypeId} {ad : Addr} {dt st el : TypeId} {p q : Tmp} (hx : e.lk p = some (.slice (some ⟨b, o, none⟩) dl dc)) (hy : e.lk q = some (.slice (some ad) sl sc)) (hd : P.underlying dt = some (.slice el)) (hz : sizeIs P el sz = true)
    (hn : min sl dl = n) (hv : vs.length = n * sz) (h1 : allOne vs = true) (hs : LDs (HS B l) ad vs) (hl : l[i]? = some (b, .cells cs.toArray u (0, 0))) (ho : Nat.ble (o + n * sz) cs.length = true) (hr : spl cs o vs = cs') :
    EOp P ⟨dst, .call ⟨.builtin .copy, #[.tmp p, .tmp q], #[dt, st]⟩, ty, pos, aft, g⟩ e (HS B l) (fun r w' => ∃ _ : Unit, r = .int .i64 n ∧ True ∧ HS B (l.set i (b, .cells cs'.toArray u (0, 0))) w') := fun a w ha hw => by
  subst hr
  unfold Oper.ex
  have hb := hw.own _ (List.mem_of_getElem? hl)
  have hx' : a.eval (.tmp p) = .slice (some ⟨b, o, none⟩) dl dc := ha.ev (e := e) (x := .tmp p) hx
  have hy' : a.eval (.tmp q) = .slice (some ad) sl sc := ha.ev (e := e) (x := .tmp q) hy
  have ho := Nat.le_of_ble_eq_true ho
  have hld := run_loadCells_list (P := P) (w := w) ad vs (fun j v hj => hs j v hj w hw)
  have hst := run_storeCells_at (P := P) b o u vs 0 cs.toArray w hb (by rw [hv]; simpa using ho) (allOne_spec h1)
  rw [setRow_eq hb] at hst
  rw [hv] at hld
  have : (execOp a.eval ⟨dst, .call ⟨.builtin .copy, #[.tmp p, .tmp q], #[dt, st]⟩, ty, pos, aft, g⟩).run P w = .ok (.value (.int .i64 n)) { w with heap := w.heap.setIfInBounds b (.cells (spl cs o vs).toArray u (0, 0)) } := by
    have hmin : Nat.min sl dl = n := hn
    simp [execOp, resolve, invoke, builtin, hx', hy', Builtin.copy_, run_underlying hd, Builtin.lenOf, run_size hz, Builtin.firstCells, hmin, hld, hst, goInt, spl]
  rw [this]
  exact ⟨(), rfl, trivial, hw.set hl⟩
/-! ### a slice out of its parts -/
theorem e_buildSlice {n : Nat} {parts : Array (Nat × Operand)} {vs : List (Nat × Value)} {cs : List Value} {u : TypeId} (hv : evps e parts.toList = some vs)
    (h : ∀ w : World, (Instr.buildSlice t n vs.toArray).run P w = .ok (.slice (some ⟨w.heap.size, 0, none⟩) n n) { w with heap := w.heap.push (.cells cs.toArray u (0, 0)) }) :
    EOp P ⟨dst, .buildSlice t n parts, ty, pos, aft, g⟩ e (HS B l) (fun r w' => ∃ b : Nat, r = .slice (some ⟨b, 0, none⟩) n n ∧ True ∧ HS B ((b, .cells cs.toArray u (0, 0)) :: l) w') := fun a w ha hw => by
  have h1 : parts.map (fun p => (p.1, a.eval p.2)) = vs.toArray := by
    rw [← evps_map ha hv]
    apply Array.ext'
    simp
  have h2 : (execOp a.eval ⟨dst, .buildSlice t n parts, ty, pos, aft, g⟩) = (do pure (.value (← Instr.buildSlice t n (parts.map fun p => (p.1, a.eval p.2))))) := rfl
  unfold Oper.ex
  rw [h2, h1, Sem.run_bind, h]
  exact ⟨w.heap.size, rfl, trivial, hw.push _⟩
/-! ### make -/
theorem map_zero {zc : List Value} {n : Nat} (hz : zc.length ≠ 0 ∨ n = 0) : (Array.range (n * zc.length)).map (fun i => zc.toArray[i % zc.toArray.size]!) = (List.replicate n zc).flatten.toArray := by
  apply Array.ext
  · simp [List.length_flatten]
  · intro i h1 h2
    simp at h1
    have hpos : 0 < zc.length := by
      rcases Nat.eq_zero_or_pos zc.length with h | h
      · rw [h] at h1; simp at h1
      · exact h
    have hm : i % zc.length < zc.length := Nat.mod_lt _ hpos
    have key : ∀ (n i : Nat), i < n * zc.length → (List.replicate n zc).flatten[i]? = zc[i % zc.length]? := by
      intro n
      induction n with
      | zero => intro i hi; simp at hi
      | succ n ih =>
        intro i hi
        rw [List.replicate_succ, List.flatten_cons]
        by_cases hlt : i < zc.length
        · rw [List.getElem?_append_left hlt, Nat.mod_eq_of_lt hlt]
        · rw [List.getElem?_append_right (by omega), ih (i - zc.length) (by rw [Nat.succ_mul] at hi; omega)]
          congr 1
          rw [← Nat.mod_eq_sub_mod (by omega)]
    have h3 := key n i h1
    have h4 : (List.replicate n zc).flatten.toArray[i] = zc[i % zc.length] := by
      have : (List.replicate n zc).flatten[i]? = some (zc[i % zc.length]) := by rw [h3]; simp [hm]
      have h5 : i < (List.replicate n zc).flatten.length := by simpa using h2
      rw [List.getElem?_eq_getElem h5] at this
      simpa using this
    simp [h4, hm]
theorem e_make {n : Int} {k : IntKind} {el : TypeId} {zv : Value} {sz by_ : Nat} (hx : e.ev x = some (.int k n)) (hy : e.ev y = some (.int k n)) (ht : P.underlying t = some (.slice el)) (hi : (P.info? el).map (fun i => (i.zero, i.size, i.bytes)) = some (some zv, sz, by_)) (hzs : zv.cells.toList.length = sz) (hsz : sz ≠ 0)
    (h : 0 ≤ n ∧ n ≤ 1099511627776) (hb : by_ ≤ 128) : EOp P ⟨dst, .makeSlice t x y, ty, pos, aft, g⟩ e (HS B l) (fun r w' => ∃ b : Nat, r = .slice (some ⟨b, 0, none⟩) n.toNat n.toNat ∧ True ∧ HS B ((b, .cells (List.replicate n.toNat zv.cells.toList).flatten.toArray el (0, 0)) :: l) w') := fun a w ha hw => by
  cases hinf : P.info? el with
  | none => rw [hinf] at hi; cases hi
  | some i =>
    rw [hinf] at hi
    simp only [Option.map_some, Option.some.injEq, Prod.mk.injEq] at hi
    obtain ⟨h1, h2, h3⟩ := hi
    have hw64 : IntKind.i64.wrap n = n := wrap_i64 (by omega)
    have hbn : (by_ : Int) * n ≤ 128 * 1099511627776 := Int.mul_le_mul (by omega) h.2 h.1 (by omega)
    have hnb : ¬ ((281474976710656 : Int) < (by_ : Int) * n) := by omega
    have hn0 : ¬ n < 0 := by omega
    have hmz := map_zero (zc := zv.cells.toList) (n := n.toNat) (Or.inl (by rw [hzs]; exact hsz))
    rw [hzs] at hmz
    unfold Oper.ex
    have : (execOp a.eval ⟨dst, .makeSlice t x y, ty, pos, aft, g⟩).run P w = .ok (.value (.slice (some ⟨w.heap.size, 0, none⟩) n.toNat n.toNat)) { w with heap := w.heap.push (.cells (List.replicate n.toNat zv.cells.toList).flatten.toArray el (0, 0)) } := by
      by_cases hz : n.toNat * sz = 0
      · have hn : n.toNat = 0 := by
          rcases Nat.mul_eq_zero.1 hz with h | h
          · exact h
          · exact absurd h hsz
        simp [execOp, ha.ev hx, ha.ev hy, Instr.makeSlice, run_underlying ht, asInt, asIntOf, typeInfo, sizeOf, hinf, h2, h3, hw64, hnb, hn0, hn, newRow]
        try rw [show (Array.range 0) = #[] from rfl]
        try simp
      · simp only [Array.toArray_toList] at hmz
        simp [execOp, ha.ev hx, ha.ev hy, Instr.makeSlice, run_underlying ht, asInt, asIntOf, typeInfo, sizeOf, zeroValue, hinf, h1, h2, h3, hw64, hnb, hn0, newRow]
        rw [if_neg hz, hmz]
    rw [this]
    exact ⟨w.heap.size, rfl, trivial, hw.push _⟩
/-! ### append, to what is owned -/
theorem run_storeCells_fr (g o : Nat) (t : TypeId) (fr : Nat × Nat) : ∀ (vs : List Value) (i : Nat) (cur : Array Value) (w : World), w.heap[g]? = some (.cells cur t fr) → (∀ o, o < cur.size → ¬ (fr.1 ≤ o ∧ o < fr.2)) → o + i + vs.length ≤ cur.size → (∀ v ∈ vs, v.oneCell' = true) →
    (storeCells ⟨g, o, none⟩ vs i).run P w = .ok () { w with heap := w.heap.setIfInBounds g (.cells (spl cur.toList (o + i) vs).toArray t fr) }
  | [], i, cur, w, hg, _, _, _ => by
    have hlt : g < w.heap.size := (Array.getElem?_eq_some_iff.1 hg).1
    have hv : w.heap[g] = .cells cur t fr := (Array.getElem?_eq_some_iff.1 hg).2
    have : w.heap.setIfInBounds g (.cells cur t fr) = w.heap := by
      apply Array.ext_getElem?
      intro k
      by_cases hk : g = k
      · subst hk; simp [hlt, hv]
      · simp [Array.getElem?_setIfInBounds_ne hk]
    simp [storeCells, spl, this]
  | v :: rest, i, cur, w, hg, hf, hl, h1 => by
    have hi : o + i < cur.size := by simp at hl; omega
    have hadd : (⟨g, o, none⟩ : Addr).add i = ⟨g, o + i, none⟩ := addr_add g o i
    have hcell : w.cell? ⟨g, o + i, none⟩ = some cur[o + i] := by simp [World.cell?, hg, hi]
    have hfro : w.frozen? ⟨g, o + i, none⟩ = false := by
      have := hf (o + i) hi
      simp only [World.frozen?, hg, Bool.and_eq_false_iff, decide_eq_false_iff_not]
      by_cases h : fr.1 ≤ o + i
      · right; omega
      · left; exact h
    have hset : w.setCell ⟨g, o + i, none⟩ v = { w with heap := w.heap.setIfInBounds g (.cells (cur.setIfInBounds (o + i) v) t fr) } := by
      have hlt : g < w.heap.size := (Array.getElem?_eq_some_iff.1 hg).1
      have hv : w.heap[g] = .cells cur t fr := (Array.getElem?_eq_some_iff.1 hg).2
      unfold World.setCell
      congr 1
      apply Array.ext_getElem?
      intro k
      by_cases hk : g = k
      · subst hk; rw [Array.getElem?_modify]; simp [hlt, hv]
      · simp [Array.getElem?_modify, hk, Array.getElem?_setIfInBounds_ne hk]
    have hst : (store ((⟨g, o, none⟩ : Addr).add i) v).run P w = .ok () { w with heap := w.heap.setIfInBounds g (.cells (cur.setIfInBounds (o + i) v) t fr) } := by
      rw [hadd, run_store P w _ v _ (h1 v (by simp)), hcell]
      simp [hfro, hset]
    have hlt : g < w.heap.size := (Array.getElem?_eq_some_iff.1 hg).1
    have ih := run_storeCells_fr g o t fr rest (i + 1) (cur.setIfInBounds (o + i) v) { w with heap := w.heap.setIfInBounds g (.cells (cur.setIfInBounds (o + i) v) t fr) } (by simp [hlt]) (by simpa using hf) (by simp at hl ⊢; omega) (fun x hx => h1 x (by simp [hx]))
    simp only [storeCells, Sem.run_bind, hst, Result.andThen_ok, ih]
    have e := list_seg_step cur.toList (o + i) v rest (by simp at hl ⊢; omega)
    congr 2
    rw [Array.setIfInBounds_setIfInBounds]
    congr 2
    simpa [spl, Array.toList_setIfInBounds, Nat.add_assoc] using e
theorem run_append_room_fr {w : World} (t ty el : TypeId) (i : TypeInfo) (ht : P.underlying t = some (.slice el)) (hi : P.info? el = some i) (fr : Nat × Nat)
    (g sLen sCap : Nat) (cur : Array Value) (hg : w.heap[g]? = some (.cells cur el fr)) (hf : ∀ o, o < cur.size → ¬ (fr.1 ≤ o ∧ o < fr.2))
    (a : Addr) (m c : Nat) (news : List Value) (hl : news.length = m * i.size) (hnews : ∀ j u, news[j]? = some u → w.cell? (a.add j) = some u) (h1 : ∀ u ∈ news, u.oneCell' = true)
    (hroom : sLen + m ≤ sCap) (hfit : sLen * i.size + news.length ≤ cur.size) :
    (Builtin.append_ #[t, t] ty #[.slice (some ⟨g, 0, none⟩) sLen sCap, .slice (some a) m c]).run P w =
      .ok (.slice (some ⟨g, 0, none⟩) (sLen + m) sCap) { w with heap := w.heap.setIfInBounds g (.cells (spl cur.toList (sLen * i.size) news).toArray el fr) } := by
  have hf' := run_firstCells_some (P := P) w i.size m a m c news hl hnews
  have hst := run_storeCells_fr (P := P) g (sLen * i.size) el fr news 0 cur w hg hf (by simpa using hfit) h1
  simp only [Nat.add_zero] at hst
  simp [Builtin.append_, run_underlying ht, sizeOf, typeInfo, hi, Builtin.lenOf, hroom, hf', Addr.add_lit, hst]
structure Vec (T sz : Nat) (A : Option Addr) (n cap : Nat) (cells : List Value) (c : List (Nat × Obj)) : Prop where
  len : cells.length = n * sz
  is : (A = none ∧ n = 0 ∧ cap = 0 ∧ c = []) ∨ ∃ b arr fr, A = some ⟨b, 0, none⟩ ∧ c = [(b, .cells arr T fr)] ∧ (∀ o, o < arr.size → ¬ (fr.1 ≤ o ∧ o < fr.2)) ∧ arr.size = cap * sz ∧ n ≤ cap ∧ cap ≤ maxLen ∧ arr.toList.take (n * sz) = cells
theorem zeroCells_len (zc : Array Value) (n : Nat) : (Builtin.zeroCells zc n).size = n * zc.size := by simp [Builtin.zeroCells]
/-- 'append(s, x...)', s owned, x at least one element that lies somewhere -/
theorem e_append {T sz by_ n cap m mc : Nat} {A : Option Addr} {cells news : List Value} {c : List (Nat × Obj)} {ad : Addr} {zv : Value} {p q : Tmp} (hx : e.lk p = some (.slice A n cap)) (hy : e.lk q = some (.slice (some ad) m mc)) (ht : P.underlying t = some (.slice T))
    (hi : (P.info? T).map (fun i => (i.zero, i.size, i.bytes)) = some (some zv, sz, by_)) (hzs : zv.cells.size = sz) (hsz : sz ≠ 0) (hV : Vec T sz A n cap cells c) (hs : LDs (HS B (c ++ l)) ad news) (hl : news.length = m * sz) (h1 : allOne news = true)
    (hm : m ≠ 0) (hb : by_ ≤ 128) (hnm : n + m ≤ 549755813888) :
    EOp P ⟨dst, .call ⟨.builtin .append, #[.tmp p, .tmp q], #[t, t]⟩, ty, pos, aft, g⟩ e (HS B (c ++ l)) (fun r w' => ∃ x : Option Addr × Nat × List (Nat × Obj), r = .slice x.1 (n + m) x.2.1 ∧ Vec T sz x.1 (n + m) x.2.1 (cells ++ news) x.2.2 ∧ HS B (x.2.2 ++ l) w') := fun a w ha hw => by
  cases hinf : P.info? T with
  | none => rw [hinf] at hi; cases hi
  | some i =>
  rw [hinf] at hi
  simp only [Option.map_some, Option.some.injEq, Prod.mk.injEq] at hi
  obtain ⟨i1, i2, i3⟩ := hi
  have hp' : a.eval (.tmp p) = .slice A n cap := ha.ev (e := e) (x := .tmp p) hx
  have hq' : a.eval (.tmp q) = .slice (some ad) m mc := ha.ev (e := e) (x := .tmp q) hy
  have hex : ∀ (v : Value) (w' : World), (Builtin.append_ #[t, t] ty #[.slice A n cap, .slice (some ad) m mc]).run P w = .ok v w' → (execOp a.eval ⟨dst, .call ⟨.builtin .append, #[.tmp p, .tmp q], #[t, t]⟩, ty, pos, aft, g⟩).run P w = .ok (.value v) w' := fun v w' h => by
    simp [execOp, resolve, invoke, builtin, hp', hq', h]
  have hnews : ∀ j v, news[j]? = some v → w.cell? (ad.add j) = some v := fun j v hj => hs j v hj w hw
  have hl' : news.length = m * i.size := by rw [i2]; exact hl
  have hbm : ∀ k : Nat, k ≤ 549755813888 → k * i.bytes ≤ 70368744177664 := fun k hk => by rw [i3]; exact Nat.le_trans (Nat.mul_le_mul hk hb) (by omega)
  have hmx : maxLen = 9223372036854775807 := rfl
  unfold Oper.ex
  rcases hV.is with ⟨rfl, rfl, rfl, rfl⟩ | ⟨b, arr, fr, rfl, rfl, hfr, hsz', hnc, hcm, htk⟩
  · -- nil
    have hr := run_append_nil w t ty T i zv ht hinf i1 ad m mc news hl' hnews (by omega) (by omega) (by have := hbm m (by omega); omega)
    rw [hex _ _ hr]
    have hce : cells = [] := List.length_eq_zero_iff.1 (by rw [hV.len]; simp)
    subst hce
    have hgc : m ≤ grownCap w m 0 T ∧ grownCap w m 0 T ≤ maxLen := by
      unfold grownCap Question.cut
      have : w.tape w.drawn (.appendCap m 0 T) % (2 ^ 63 - m) < 2 ^ 63 - m := Nat.mod_lt _ (by omega)
      rw [hmx]; simp only; omega
    refine ⟨(some ⟨w.heap.size, 0, none⟩, grownCap w m 0 T, [(w.heap.size, .cells (news.toArray ++ Builtin.zeroCells zv.cells (grownCap w m 0 T - m)) T (0, 0))]), by simp, ⟨by simp [hl], Or.inr ⟨_, _, (0, 0), rfl, rfl, (fun o _ h => by simp at h), ?_, (by show _ ≤ grownCap w _ _ T; omega), hgc.2, ?_⟩⟩, ?_⟩
    · rw [Array.size_append, zeroCells_len, hzs]; simp only [List.size_toArray, hl]; rw [← Nat.add_mul]; congr 1; omega
    · simp [hl]
    · exact (HS.cl _ _ hw (Ext.drew w)).push _
  · have hown := hw.own (b, .cells arr T fr) (by simp)
    have htl : cells.length = n * sz := hV.len
    by_cases hroom : n + m ≤ cap
    · have hfit : n * i.size + news.length ≤ arr.size := by
        rw [i2, hl, hsz', ← Nat.add_mul]; exact Nat.mul_le_mul_right _ hroom
      have hr := run_append_room_fr t ty T i ht hinf fr b n cap arr hown hfr ad m mc news hl' hnews (allOne_spec h1) hroom hfit
      rw [hex _ _ hr]
      have hlen2 : (spl arr.toList (n * i.size) news).length = arr.size := by
        rw [i2] at hfit ⊢
        simp only [spl, List.length_append, List.length_take, List.length_drop, Array.length_toList]; omega
      refine ⟨(some ⟨b, 0, none⟩, cap, [(b, .cells (spl arr.toList (n * i.size) news).toArray T fr)]), rfl, ⟨?_, Or.inr ⟨_, _, fr, rfl, rfl, (by rw [List.size_toArray, hlen2]; exact hfr), ?_, hroom, hcm, ?_⟩⟩, ?_⟩
      · rw [List.length_append, htl, hl, Nat.add_mul]
      · simp only [spl]
        rw [i2] at hfit ⊢
        simp only [List.size_toArray, List.length_append, List.length_take, List.length_drop, Array.length_toList]
        rw [← hsz']; omega
      · simp only [spl]
        rw [i2, htk]
        simp only [List.append_assoc]
        rw [← List.append_assoc, List.take_append_of_le_length (by rw [List.length_append, htl, hl, Nat.add_mul]; exact Nat.le_refl _), List.take_of_length_le (by rw [List.length_append, htl, hl, Nat.add_mul]; exact Nat.le_refl _)]
      · exact hw.set (i := 0) (o := .cells arr T fr) (l := (b, .cells arr T fr) :: l) (by simp)
    · have holds : ∀ j v, cells[j]? = some v → w.cell? ((⟨b, 0, none⟩ : Addr).add j) = some v := fun j v hj => by
        rw [addr_add]
        subst htk
        rw [List.getElem?_take] at hj
        split at hj
        · simp [World.cell?, hown]; simpa using hj
        · cases hj
      have hns : Builtin.nextslicecap (n + m) cap * i.bytes ≤ 281474976710656 := by
        have h2 := nextslicecap_le (need := n + m) (old := cap) (by omega)
        have h3 := Nat.mul_le_mul_right i.bytes h2
        have h4 := hbm (n + m) hnm
        rw [Nat.mul_assoc] at h3
        omega
      have hr := run_append_grow w t ty T i zv ht hinf i1 ⟨b, 0, none⟩ n cap cells (by rw [i2]; exact htl) holds ad m mc news hl' hnews (by omega) (by omega) hns
      rw [hex _ _ hr]
      have hgc : n + m ≤ grownCap w (n + m) cap T ∧ grownCap w (n + m) cap T ≤ maxLen := by
        unfold grownCap Question.cut
        have : w.tape w.drawn (.appendCap (n + m) cap T) % (2 ^ 63 - (n + m)) < 2 ^ 63 - (n + m) := Nat.mod_lt _ (by omega)
        rw [hmx]; simp only; omega
      refine ⟨(some ⟨w.heap.size, 0, none⟩, grownCap w (n + m) cap T, [(w.heap.size, .cells (cells.toArray ++ news.toArray ++ Builtin.zeroCells zv.cells (grownCap w (n + m) cap T - (n + m))) T (0, 0))]), rfl, ⟨?_, Or.inr ⟨_, _, (0, 0), rfl, rfl, (fun o _ h => by simp at h), ?_, (by show _ ≤ grownCap w _ _ T; omega), hgc.2, ?_⟩⟩, ?_⟩
      · rw [List.length_append, htl, hl, Nat.add_mul]
      · rw [Array.size_append, zeroCells_len, hzs]; simp only [Array.size_append, List.size_toArray, hl, htl]; rw [← Nat.add_mul, ← Nat.add_mul]; congr 1; omega
      · have hln : (cells ++ news).length = (n + m) * sz := by rw [List.length_append, htl, hl, Nat.add_mul]
        simp only [Array.toList_append, List.toList_toArray]
        rw [List.take_append_of_le_length (by omega), List.take_of_length_le (by omega)]
      · exact ((HS.cl _ _ hw (Ext.drew w)).drop1).push _
/-- '[]byte(s)' -/
theorem e_s2b {s : ByteArray} {src d el : TypeId} {ds : TypeDesc} (hx : e.ev x = some (.string s)) (hs : P.underlying src = some ds) (hd : P.underlying d = some (.slice el)) (he : P.underlying el = some (.int .u8)) (hsz : s.size ≤ 1099511627776) :
    EOp P ⟨dst, .convert src d x, ty, pos, aft, g⟩ e (HS B l) (fun r w' => ∃ q : Option Addr × Nat × List (Nat × Obj), r = .slice q.1 s.size q.2.1 ∧ Vec el 1 q.1 s.size q.2.1 (s.data.toList.map fun b => .int .u8 b.toNat) q.2.2 ∧ HS B (q.2.2 ++ l) w') := fun a w ha hw => by
  unfold Oper.ex
  have hcut : ∀ tp : Nat, s.size ≤ (Question.appendCap s.size 0 el).cut tp ∧ (Question.appendCap s.size 0 el).cut tp ≤ maxLen := fun tp => by
    simp only [Question.cut]
    have : tp % (2 ^ 63 - s.size) < 2 ^ 63 - s.size := Nat.mod_lt _ (by omega)
    have hmx : maxLen = 9223372036854775807 := rfl
    omega
  have hcap : s.size ≤ grownCap w s.size 0 el ∧ grownCap w s.size 0 el ≤ maxLen := hcut _
  obtain ⟨hc1, hc2⟩ := hcap
  have hcs : (Lib.bytesCells w el s).size = grownCap w s.size 0 el := by
    simp only [Lib.bytesCells, Array.size_append, Array.size_map, Array.size_replicate]
    have : s.data.size = s.size := rfl
    omega
  have hwd : Lib.bytesWorld w el s = { w with drawn := w.drawn + 1, heap := w.heap.push (.cells (Lib.bytesCells w el s) el ((Lib.bytesCells w el s).size, (Lib.bytesCells w el s).size + 1)) } := by
    have h1 : (Lib.bytesWorld w el s).heap = w.heap.push (.cells (Lib.bytesCells w el s) el ((Lib.bytesCells w el s).size, (Lib.bytesCells w el s).size + 1)) := by
      apply Array.ext'
      apply List.ext_getElem?
      intro j
      rw [Array.getElem?_toList, Array.getElem?_toList]
      rcases Nat.lt_trichotomy j w.heap.size with hj | hj | hj
      · rw [Lib.bytesWorld_at_old w el s j hj, Array.getElem?_push, if_neg (by omega)]
      · subst hj; rw [Lib.bytesWorld_at_new, Array.getElem?_push, if_pos rfl]
      · rw [Array.getElem?_eq_none (by rw [Lib.bytesWorld_size]; omega), Array.getElem?_eq_none (by simp; omega)]
    rw [← h1]
    rfl
  have hrun : (execOp a.eval ⟨dst, .convert src d x, ty, pos, aft, g⟩).run P w = .ok (.value (.slice (some ⟨w.heap.size, 0, none⟩) s.size (grownCap w s.size 0 el))) (Lib.bytesWorld w el s) := by
    simp [execOp, ha.ev hx, Lib.run_convert_string_bytes w src d el s hs hd he]
  rw [hrun, hwd]
  refine ⟨(some ⟨w.heap.size, 0, none⟩, grownCap w s.size 0 el, [(w.heap.size, .cells (Lib.bytesCells w el s) el ((Lib.bytesCells w el s).size, (Lib.bytesCells w el s).size + 1))]), rfl, ⟨by simp, Or.inr ⟨_, _, ((Lib.bytesCells w el s).size, (Lib.bytesCells w el s).size + 1), rfl, rfl, ?_, ?_, hc1, hc2, ?_⟩⟩, ?_⟩
  · intro o ho; simp only; omega
  · rw [hcs, Nat.mul_one]
  · simp [Lib.bytesCells]
  · exact (HS.cl _ _ hw (Ext.drew w)).push _
/-- 'string(b)' -/
theorem q_b2s {A : Option Addr} {n cap : Nat} {bs : List Int} {src d el : TypeId} (hx : e.ev x = some (.slice A n cap)) (hs : P.underlying src = some (.slice el)) (hd : P.underlying d = some .string) (he : P.underlying el = some (.int .u8)) (hn : bs.length = n)
    (h : n = 0 ∨ A.isSome = true) (hl : LDs C (adr A) (bs.map fun b => .int .u8 b)) : QOp P ⟨dst, .convert src d x, ty, pos, aft, g⟩ e C (.string (strOfNums bs)) := q_run fun a w ha hw => by
  have hr : (convert src d (.slice A n cap)).run P w = .ok (.string (strOfNums bs)) w := by
    rcases A with _ | ad
    · have h0 : n = 0 := by simpa using h
      subst h0
      obtain rfl : bs = [] := List.eq_nil_of_length_eq_zero hn
      exact run_convert_bytes_nil w src el hs he 0 cap d hd
    · have hl' : (loadCells ad n).run P w = .ok (bs.map (Value.int .u8)).toArray w := by
        have := run_loadCells_list (P := P) w ad (bs.map (Value.int .u8)) (fun j v hj => hl j v hj w hw)
        simpa [hn] using this
      rw [run_convert_bytes_string w src d el _ n cap hs he hd, run_bytesToString w ad n cap bs hl', foldl_push_bytes]
      simp [strOfNums, ByteArray.empty, ByteArray.emptyWithCapacity]
      rfl
  simp [execOp, ha.ev hx, hr]
theorem Vec.nil (T sz : Nat) : Vec T sz none 0 0 [] [] := ⟨by simp, Or.inl ⟨rfl, rfl, rfl, rfl⟩⟩
end
end Go.GX
namespace Go.GX
open Go
theorem iv_one : ∀ l : List Int, allOne (iv l) = true
  | [] => rfl
  | _ :: r => by simp only [iv, List.map_cons, allOne, Bool.and_eq_true]; exact ⟨rfl, iv_one r⟩
theorem iv_len (l : List Int) : (iv l).length = l.length := by simp [iv]
end Go.GX
namespace Go.GX
open Go
theorem spl_all {cs vs : List Value} (h : cs.length = vs.length) : spl cs 0 vs = vs := by
  simp [spl, ← h]
theorem LDs.one' {C : World → Prop} {a : Addr} {xs : List Int} (h : LDs C a (iv xs)) {j : Nat} (hj : j < xs.length) : LD C (a.add (j * 1)) (.int .i64 (xs.getD j 0)) := by
  rw [Nat.mul_one]; exact h.one hj
end Go.GX
namespace Go.GX
open Go
/-! ### a block whose content is left open: for a store that others may run beside -/
def HX (B : Base) (F : List Value → List (Nat × Obj)) (n : Nat) (w : World) : Prop := ∃ cs : List Value, cs.length = n ∧ HS B (F cs) w
theorem HX.cl {B : Base} {F : List Value → List (Nat × Obj)} {n : Nat} : Cl (HX B F n) := fun w w' ⟨cs, h1, h2⟩ hx => ⟨cs, h1, HS.cl w w' h2 hx⟩
theorem ldx {B : Base} {F : List Value → List (Nat × Obj)} {n : Nat} {a : Addr} {v : Value} (h : ∀ cs, LD (HS B (F cs)) a v) : LD (HX B F n) a v := fun w ⟨cs, _, hw⟩ => h cs w hw
theorem ldsx {B : Base} {F : List Value → List (Nat × Obj)} {n : Nat} {a : Addr} {vs : List Value} (h : ∀ cs, LDs (HS B (F cs)) a vs) : LDs (HX B F n) a vs := fun j v hj w ⟨cs, _, hw⟩ => h cs j v hj w hw
section
variable {P : Program} {e : Env} {B : Base} {dst : Option Tmp} {ty : TypeId} {pos : String} {aft : Array Edge} {g : Option (Nat × Bool)} {t : TypeId} {x y : Operand}
theorem e_storex {F : List Value → List (Nat × Obj)} (i : Nat) {b n : Nat} {cs' : List Value} {u : TypeId} {v : Value} (hx : e.ev x = some (.pointer (some ⟨b, 0, none⟩))) (hy : e.ev y = some v) (hl : ∀ cs, (F cs)[i]? = some (b, .cells cs.toArray u (0, 0))) (hF : ∀ cs, (F cs).set i (b, .cells cs'.toArray u (0, 0)) = F cs')
    (hn : sizeIs P t n = true) (hv : v.cells.toList = cs') (hn' : cs'.length = n) (h1 : allOne cs' = true) :
    EOp P ⟨dst, .store t x y, ty, pos, aft, g⟩ e (HX B F n) (fun r w' => ∃ _ : Unit, r = undef ∧ True ∧ HS B (F cs') w') := fun a w ha ⟨cs, hcs, hw⟩ => by
  subst hv
  have hsp : spl cs 0 v.cells.toList = v.cells.toList := spl_all (by rw [hcs, hn'])
  have := e_store (P := P) (l := F cs) (dst := dst) (ty := ty) (pos := pos) (aft := aft) (g := g) i hx hy (hl cs) hn hn' h1 (by rw [Nat.zero_add, hcs]; exact Nat.ble_eq ▸ Nat.le_refl _) hsp a w ha hw
  rw [hF cs] at this
  exact this
end
end Go.GX
namespace Go.GX
open Go
section
variable {P : Program} {e : Env} {C : World → Prop} {B : Base} {l : List (Nat × Obj)} {dst : Option Tmp} {ty : TypeId} {pos : String} {aft : Array Edge} {g : Option (Nat × Bool)} {t t' : TypeId} {x y z : Operand}
theorem q_makeFunc {fn : Fn} {caps : List Operand} {vs : List Value} (h : evs e caps = some vs) : QOp P ⟨dst, .makeFunc fn #[] caps.toArray, ty, pos, aft, g⟩ e C (.func fn #[] vs.toArray) := q_run fun a w ha _ => by
  simp [execOp, Instr.makeFunc, evs_map ha h]
theorem q_sliceA_hm {n sz : Nat} {A : Addr} {hi mx : Int} {k k' : IntKind} {el : TypeId} (hx : e.ev x = some (.pointer (some A))) (ht : P.underlying t = some (.array n el)) (hz : sizeIs P el sz = true) (hh : e.ev y = some (.int k hi)) (hm : e.ev z = some (.int k' mx)) (h : 0 ≤ hi ∧ hi ≤ mx ∧ mx ≤ (n : Int)) :
    QOp P ⟨dst, .slice t x none (some y) (some z), ty, pos, aft, g⟩ e C (.slice (some A) hi.toNat mx.toNat) := q_run fun a w ha _ => by
  have h1 : 0 ≤ mx := by omega
  have h2 : hi ≤ max mx 0 := by omega
  simp [execOp, ha.ev hx, ha.ev hh, ha.ev hm, Instr.sliceAt, Instr.sureAddr, run_underlying ht, Instr.sliceBounds, Instr.sliceBound, asIntOf, h.1, h.2.2, h1, h2, run_size hz, Addr.add]
/-- a slice of its own, as one that is read -/
theorem Vec.sli {T : TypeId} {n cap : Nat} {A : Option Addr} {xs : List Int} {c : List (Nat × Obj)} (h : Vec T 1 A n cap (iv xs) c) : SlI (HS B (c ++ l)) A n xs := by
  have hl : xs.length = n := by have := h.len; simpa [iv] using this
  rcases h.is with ⟨rfl, rfl, rfl, rfl⟩ | ⟨b, arr, fr, rfl, rfl, _, _, _, _, h4⟩
  · exact ⟨by simpa using hl, Or.inl rfl, fun i r hr => by simp [List.length_eq_zero_iff.1 hl] at hr⟩
  · refine ⟨by simpa using hl, Or.inr rfl, fun i r hr j v hj => ?_⟩
    rw [List.getElem?_map] at hr
    obtain ⟨x, hx, rfl⟩ : ∃ x, xs[i]? = some x ∧ iRow x = r := by
      cases hxi : xs[i]? with
      | none => rw [hxi] at hr; cases hr
      | some x => rw [hxi] at hr; exact ⟨x, rfl, by simpa using hr⟩
    have hj0 : j = 0 ∧ v = .int .i64 x := by
      cases j with
      | zero => exact ⟨rfl, by simpa [iRow] using hj.symm⟩
      | succ j => simp [iRow] at hj
    obtain ⟨rfl, rfl⟩ := hj0
    have hi : i < n := by rw [← hl]; exact (List.getElem?_eq_some_iff.1 hx).1
    show LD _ (((⟨b, 0, none⟩ : Addr).add (i * 1)).add 0) _
    rw [addr_add, addr_add, Nat.mul_one, Nat.zero_add, Nat.add_zero]
    refine ld_own 0 rfl ?_
    have : (arr.toList.take (n * 1))[i]? = (iv xs)[i]? := by rw [h4]
    rw [List.getElem?_take_of_lt (by omega), Array.getElem?_toList] at this
    rw [this]; simp [iv, hx]
end
end Go.GX
namespace Go.GX
open Go
section
variable {P : Program} {e : Env} {C : World → Prop} {B : Base} {l : List (Nat × Obj)} {dst : Option Tmp} {ty : TypeId} {pos : String} {aft : Array Edge} {g : Option (Nat × Bool)} {t t' : TypeId} {x y z : Operand}
theorem own_sli {T : TypeId} {fr : Nat × Nat} {b k : Nat} {xs : List Int} (hk : k ≤ xs.length) : SlI (HS B ((b, .cells (iv xs).toArray T fr) :: l)) (some ⟨b, 0, none⟩) k (xs.take k) := by
  refine ⟨by simp; omega, Or.inr rfl, fun i r hr j v hj => ?_⟩
  rw [List.getElem?_map] at hr
  obtain ⟨x, hx, rfl⟩ : ∃ x, (xs.take k)[i]? = some x ∧ iRow x = r := by
    cases hxi : (xs.take k)[i]? with
    | none => rw [hxi] at hr; cases hr
    | some x => rw [hxi] at hr; exact ⟨x, rfl, by simpa using hr⟩
  have hj0 : j = 0 ∧ v = .int .i64 x := by
    cases j with
    | zero => exact ⟨rfl, by simpa [iRow] using hj.symm⟩
    | succ j => simp [iRow] at hj
  obtain ⟨rfl, rfl⟩ := hj0
  show LD _ (((⟨b, 0, none⟩ : Addr).add (i * 1)).add 0) _
  rw [addr_add, addr_add, Nat.mul_one, Nat.zero_add, Nat.add_zero]
  refine ld_own 0 rfl ?_
  rw [List.getElem?_take] at hx
  split at hx
  · simp [iv, hx]
  · cases hx
theorem HS.mid {c m : List (Nat × Obj)} {w : World} (h : HS B (c ++ (m ++ l)) w) : HS B (c ++ l) w :=
  HS.drop (l' := m) (h.perm (by
    rw [← List.append_assoc, ← List.append_assoc]
    exact List.Perm.append_right l List.perm_append_comm))
theorem e_cls {C' : World → Prop} {o : Oper} {next : Value → World → Prop} (hc : ∀ w, C w → C' w) (h : EOp P o e C' next) : EOp P o e C next := fun a w ha hw => h a w ha (hc w hw)
end
end Go.GX
