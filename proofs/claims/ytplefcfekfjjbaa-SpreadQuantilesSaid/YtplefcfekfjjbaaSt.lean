/- slices.Sort and slices.Collect, as the walks want them. -/
import Derived.Test.YtplefcfekfjjbaaGX9
import Derived.Test.YtplefcfekfjjbaaIt
import Derived.Shelf.Sort.Plain
import Derived.Shelf.Slices.In.SortNone
import Derived.Shelf.Strconv.Itoa0
import Derived.Sort.OwnSortedInts
set_option linter.unusedVariables false
set_option linter.unusedSimpArgs false
namespace Go.Proofs.Ytplefcfekfjjbaa
open Go Go.Proofs Go.Shelf Go.Sort Go.RowKit Go.GX
def lays189_ren : Ren :=
  {
    f := fun x =>
      match x with
      | 189 => 15
      | 125 => 19
      | 257 => 18
      | 128 => 29
      | 129 => 12
      | 294 => 20
      | 295 => 21
      | 296 => 22
      | 297 => 23
      | 298 => 24
      | 299 => 25
      | 216 => 26
      | 300 => 27
      | 301 => 28
      | 328 => 30
      | 329 => 31
      | 330 => 32
      | 331 => 33
      | 332 => 34
      | 215 => 35
      | 343 => 36
      | n => n,
    t := fun x =>
      match x with
      | 28 => 22
      | 3 => 3
      | 46 => 47
      | 0 => 0
      | 51 => 61
      | 53 => 43
      | 4 => 4
      | 183 => 53
      | 182 => 52
      | 131 => 58
      | 5 => 5
      | 9 => 9
      | 218 => 62
      | 222 => 66
      | 228 => 68
      | 229 => 28
      | n => n,
    g := fun x =>
      have n := x;
      n }
theorem lays189 : Lays.n189 Try.prog lays189_ren :=
  { mixed := Eq.refl true, f125 := Eq.trans Try.func19 (congrArg some (Eq.refl (Body.n125 lays189_ren))),
    f128 := Eq.trans Try.func29 (congrArg some (Eq.refl (Body.n128 lays189_ren))),
    f129 := Eq.trans Try.func12 (congrArg some (Eq.refl (Body.n129 lays189_ren))),
    f189 := Eq.trans Try.func15 (congrArg some (Eq.refl (Body.n189 lays189_ren))),
    f215 := Eq.trans Try.func35 (congrArg some (Eq.refl (Body.n215 lays189_ren))),
    f216 := Eq.trans Try.func26 (congrArg some (Eq.refl (Body.n216 lays189_ren))),
    f257 := Eq.trans Try.func18 (congrArg some (Eq.refl (Body.n257 lays189_ren))),
    f294 := Eq.trans Try.func20 (congrArg some (Eq.refl (Body.n294 lays189_ren))),
    f295 := Eq.trans Try.func21 (congrArg some (Eq.refl (Body.n295 lays189_ren))),
    f296 := Eq.trans Try.func22 (congrArg some (Eq.refl (Body.n296 lays189_ren))),
    f297 := Eq.trans Try.func23 (congrArg some (Eq.refl (Body.n297 lays189_ren))),
    f298 := Eq.trans Try.func24 (congrArg some (Eq.refl (Body.n298 lays189_ren))),
    f299 := Eq.trans Try.func25 (congrArg some (Eq.refl (Body.n299 lays189_ren))),
    f300 := Eq.trans Try.func27 (congrArg some (Eq.refl (Body.n300 lays189_ren))),
    f301 := Eq.trans Try.func28 (congrArg some (Eq.refl (Body.n301 lays189_ren))),
    f328 := Eq.trans Try.func30 (congrArg some (Eq.refl (Body.n328 lays189_ren))),
    f329 := Eq.trans Try.func31 (congrArg some (Eq.refl (Body.n329 lays189_ren))),
    f330 := Eq.trans Try.func32 (congrArg some (Eq.refl (Body.n330 lays189_ren))),
    f331 := Eq.trans Try.func33 (congrArg some (Eq.refl (Body.n331 lays189_ren))),
    f332 := Eq.trans Try.func34 (congrArg some (Eq.refl (Body.n332 lays189_ren))),
    f343 := Eq.trans Try.func36 (congrArg some (Eq.refl (Body.n343 lays189_ren))), t0 := Try.underlying0,
    a0 := Try.isAgg0, z0 := Try.sizeOf0, v0 := Try.zeroValue0, t3 := Try.underlying3, a3 := Try.isAgg3, z3 := Try.sizeOf3,
    v3 := Try.zeroValue3, t4 := Try.underlying4, a4 := Try.isAgg4, z4 := Try.sizeOf4, v4 := Try.zeroValue4,
    t5 := Try.underlying5, a5 := Try.isAgg5, z5 := Try.sizeOf5, v5 := Try.zeroValue5, t9 := Try.underlying9,
    a9 := Try.isAgg9, z9 := Try.sizeOf9, v9 := Try.zeroValue9, t28 := Try.underlying22, a28 := Try.isAgg22,
    z28 := Try.sizeOf22, v28 := Try.zeroValue22, t46 := Try.underlying47, a46 := Try.isAgg47, z46 := Try.sizeOf47,
    v46 := Try.zeroValue47, t51 := Try.underlying61, a51 := Try.isAgg61, z51 := Try.sizeOf61, v51 := Try.zeroValue61,
    t53 := Try.underlying43, a53 := Try.isAgg43, z53 := Try.sizeOf43, v53 := Try.zeroValue43, t131 := Try.underlying58,
    a131 := Try.isAgg58, z131 := Try.sizeOf58, v131 := Try.zeroValue58, t182 := Try.underlying52, a182 := Try.isAgg52,
    z182 := Try.sizeOf52, v182 := Try.zeroValue52, t183 := Try.underlying53, a183 := Try.isAgg53, z183 := Try.sizeOf53,
    v183 := Try.zeroValue53, t218 := Try.underlying62, a218 := Try.isAgg62, z218 := Try.sizeOf62, v218 := Try.zeroValue62,
    t222 := Try.underlying66, a222 := Try.isAgg66, z222 := Try.sizeOf66, v222 := Try.zeroValue66,
    t228 := Try.underlying68, a228 := Try.isAgg68, z228 := Try.sizeOf68, v228 := Try.zeroValue68,
    t229 := Try.underlying28, a229 := Try.isAgg28, z229 := Try.sizeOf28, v229 := Try.zeroValue28 }
def lays129_ren : Ren :=
  {
    f := fun x =>
      match x with
      | 129 => 12
      | n => n,
    t := fun x =>
      match x with
      | 53 => 43
      | 3 => 3
      | 4 => 4
      | 46 => 47
      | 5 => 5
      | 9 => 9
      | n => n,
    g := fun x =>
      have n := x;
      n }
theorem lays129 : Lays.n129 Try.prog lays129_ren :=
  { mixed := Eq.refl true, f129 := Eq.trans Try.func12 (congrArg some (Eq.refl (Body.n129 lays129_ren))),
    t3 := Try.underlying3, a3 := Try.isAgg3, z3 := Try.sizeOf3, v3 := Try.zeroValue3, t4 := Try.underlying4,
    a4 := Try.isAgg4, z4 := Try.sizeOf4, v4 := Try.zeroValue4, t5 := Try.underlying5, a5 := Try.isAgg5, z5 := Try.sizeOf5,
    v5 := Try.zeroValue5, t9 := Try.underlying9, a9 := Try.isAgg9, z9 := Try.sizeOf9, v9 := Try.zeroValue9,
    t46 := Try.underlying47, a46 := Try.isAgg47, z46 := Try.sizeOf47, v46 := Try.zeroValue47, t53 := Try.underlying43,
    a53 := Try.isAgg43, z53 := Try.sizeOf43, v53 := Try.zeroValue43 }


variable {B : Base} {l : List (Nat × Obj)}
/-- a call that only lays new blocks: one of them is kept -/
theorem hs_below {w w' : World} (h : HS B l w) (hb : Go.RowKit.Below w.heap.size w w') : HS B l w' := by
  have hlt : ∀ b o', w.heap[b]? = some o' → b < w.heap.size := fun b o' hb => (Array.getElem?_eq_some_iff.1 hb).1
  refine ⟨fun b o hB => ?_, fun p hp => ?_, h.apart, h.nodup, ?_⟩
  · have := h.base b o hB; rw [hb.block b (hlt _ _ this)]; exact this
  · have := h.own p hp; rw [hb.block _ (hlt _ _ this)]; exact this
  · rw [hb.os, hb.tape, hb.output]; exact h.env
theorem hs_below1 {w w' : World} {g : Nat} {o : Obj} (h : HS B l w) (hb : Go.RowKit.Below w.heap.size w w') (hg : w.heap.size ≤ g) (ho : w'.heap[g]? = some o) : HS B ((g, o) :: l) w' := by
  have hlt : ∀ b o', w.heap[b]? = some o' → b < w.heap.size := fun b o' hb => (Array.getElem?_eq_some_iff.1 hb).1
  have h' := hs_below h hb
  refine ⟨h'.base, fun p hp => ?_, fun p hp => ?_, ?_, h'.env⟩
  · cases hp with
    | head => exact ho
    | tail _ hp => exact h'.own p hp
  · cases hp with
    | head =>
      cases hB : B.hp g with
      | none => rfl
      | some o' => have := hlt _ _ (h.base _ _ hB); omega
    | tail _ hp => exact h.apart p hp
  · rw [List.map_cons, List.nodup_cons]
    refine ⟨fun hm => ?_, h.nodup⟩
    obtain ⟨p, hp, he⟩ := List.mem_map.1 hm
    have := hlt _ _ (h.own p hp)
    omega
theorem f_Collect {A : Option Addr} {cap bs : Nat} {T : TypeId} {xs : List Int} (hlen : xs.length ≤ 1099511627776) (hb : (bs, .cells #[.slice A xs.length cap] T (0, 0)) ∈ l) (hs : SlI (HS B l) A xs.length xs) (w : World) (hw : HS B l w) :
    Calls Try.prog 14 #[.func (.func 16) #[] #[.pointer (some ⟨bs, 0, none⟩)]] w fun en w' => ∃ v, en = .returned v ∧ ∃ q : Option Addr × Nat × List (Nat × Obj), v = .slice q.1 xs.length q.2.1 ∧ Vec 3 1 q.1 xs.length q.2.1 (iv xs) q.2.2 ∧ HS B (q.2.2 ++ l) w' := by
  have hbo := hw.own _ hb
  have hblt : bs < w.heap.size := (Array.getElem?_eq_some_iff.1 hbo).1
  refine (collect bs A cap xs hlen w (by simp [World.cell?, hbo]) hblt (fun j hj => ?_)).mono ?_
  · have hg := hs.get (i := (j : Int)) ⟨by omega, by omega⟩ w hw
    simp only [Int.toNat_natCast, Nat.mul_one] at hg
    rcases hs.some with h0 | h0
    · omega
    · obtain ⟨p, rfl⟩ := Option.isSome_iff_exists.1 h0
      refine ⟨p, rfl, ?_, by rw [show adr (some p) = p from rfl] at hg; rw [hg]; simp [List.getD_eq_getElem?_getD]⟩
      have := World.block_lt_of_cell? _ _ hg
      revert this
      unfold Addr.add; split <;> exact id
  · rintro en w' ⟨v, rfl, hrow, hbl⟩
    rcases hrow.2 with ⟨rfl, h0⟩ | ⟨g, cap', cur, rfl, hg, hgb, h1, h2, h3, h4⟩
    · have hx : xs = [] := List.eq_nil_of_length_eq_zero h0
      subst hx
      exact ⟨_, rfl, (none, 0, []), rfl, Vec.nil _ _, hs_below hw hbl⟩
    · refine ⟨_, rfl, (some ⟨g, 0, none⟩, cap', [(g, .cells cur 3 (0, 0))]), rfl, ⟨by simp [iv], Or.inr ⟨g, cur, (0, 0), rfl, rfl, fun o _ h => by simp at h, h3, h1, h2, h4⟩⟩, hs_below1 hw hbl hg hgb⟩
theorem f_Sort {A : Option Addr} {cap : Nat} {c : List (Nat × Obj)} {xs : List Int} (hV : Vec 3 1 A xs.length cap (iv xs) c) (hlen : xs.length ≤ 1099511627776) (w : World) (hw : HS B (c ++ l) w) :
    Calls Try.prog 15 #[.slice A xs.length cap] w fun en w' => ∃ v, en = .returned v ∧ ∃ c' : List (Nat × Obj), v = .tuple #[] ∧ Vec 3 1 A xs.length cap (iv (xs.mergeSort fun x y => decide (x ≤ y))) c' ∧ HS B (c' ++ l) w' := by
  rcases hV.is with ⟨rfl, h0, rfl, rfl⟩ | ⟨g, cur, fr, rfl, rfl, hf, h1, h2, h3, h4⟩
  · have hx : xs = [] := List.eq_nil_of_length_eq_zero h0
    subst hx
    exact (Any.slices_Sort_int_none lays189 none 0 w).mono fun en w' ⟨h1, h2⟩ => ⟨_, h1, [], rfl, by simpa [iv] using Vec.nil _ _, by rw [h2]; exact hw⟩
  · have hgb : w.heap[g]? = some (.cells cur 3 fr) := hw.own (g, _) (by simp)
    have hgl : g < w.heap.size := (Array.getElem?_eq_some_iff.1 hgb).1
    have hH : Holds (Value.int .i64) w g 0 xs.toArray := fun j hj => by
      have hj' : j < xs.length := by simpa using hj
      have hcj : cur[j]? = some (.int .i64 xs[j]) := by
        have : (cur.toList.take (xs.length * 1))[j]? = (iv xs)[j]? := by rw [h4]
        rw [List.getElem?_take_of_lt (by omega), Array.getElem?_toList] at this
        rw [this]; simp [iv, hj']
      have hjc : j < cur.size := (Array.getElem?_eq_some_iff.1 hcj).1
      refine ⟨by simp [World.cell?, hgb, hcj, hj'], ?_⟩
      have := hf j hjc
      simp [World.frozen?, hgb]
      omega
    refine (Any.slices_Sort_int lays189 g 0 cap xs w hH hgl (by omega)).mono ?_
    rintro en w' ⟨rfl, n, os, rfl⟩
    have hgr := grownBy_sortedI (w := w) (g := g) (n := n) (os := os) (xs.mergeSort fun x y => decide (x ≤ y)).toArray
    have hnew := heap_sortedI (w := w) (g := g) (n := n) (os := os) (xs.mergeSort fun x y => decide (x ≤ y)).toArray hgb
    refine ⟨_, rfl, [(g, .cells (putCells (Value.int .i64) 0 (xs.mergeSort fun x y => decide (x ≤ y)).toArray cur) 3 fr)], rfl, ⟨by simp [iv], Or.inr ⟨g, _, fr, rfl, rfl, by simpa [putCells] using hf, by simpa [putCells] using h1, h2, h3, ?_⟩⟩, ?_⟩
    · have := take_putCellsI cur (xs.mergeSort fun x y => decide (x ≤ y)) (by rw [List.length_mergeSort, h1]; omega)
      rw [List.length_mergeSort] at this
      rw [Nat.mul_one]; exact this
    · have hlt : ∀ b o', w.heap[b]? = some o' → b < w.heap.size := fun b o' hb => (Array.getElem?_eq_some_iff.1 hb).1
      have hne : ∀ p ∈ l, p.1 ≠ g := fun p hp e => by
        have := hw.nodup
        simp only [List.cons_append, List.nil_append, List.map_cons, List.nodup_cons] at this
        exact this.1 (e ▸ List.mem_map_of_mem hp)
      refine ⟨fun b o hB => ?_, fun p hp => ?_, fun p hp => ?_, by simpa using hw.nodup, ?_⟩
      · have hb := hw.base b o hB
        have hbg : some b ≠ some g := fun e => by
          cases e
          have := hw.apart (g, .cells cur 3 fr) (by simp)
          rw [hB] at this; cases this
        rw [hgr.block b (hlt _ _ hb) hbg]; exact hb
      · simp only [List.cons_append, List.nil_append, List.mem_cons] at hp
        rcases hp with rfl | hp
        · exact hnew
        · have hb := hw.own p (by simp [hp])
          rw [hgr.block p.1 (hlt _ _ hb) (by simpa using hne p hp)]; exact hb
      · simp only [List.cons_append, List.nil_append, List.mem_cons] at hp
        rcases hp with rfl | hp
        · exact hw.apart (g, .cells cur 3 fr) (by simp)
        · exact hw.apart p (by simp [hp])
      · exact ⟨hgr.os.trans hw.env.1, hgr.tape.trans hw.env.2.1, hgr.output.trans hw.env.2.2⟩
theorem f_Len64 (C : World → Prop) (hC : Cl C) (x : Int) (h0 : 0 ≤ x) (h1 : x ≤ 18446744073709551615) : ∀ w, C w → Calls Try.prog 12 #[.int .u64 x] w (fun en w' => en = .returned (.int .i64 (Lib.bitLen x.toNat)) ∧ Ext w w') := fun w _ =>
  (Any.bits_Len64 lays129 x w h0 h1).mono fun en w' ⟨h, e⟩ => ⟨h, e ▸ Ext.refl w⟩
end Go.Proofs.Ytplefcfekfjjbaa
