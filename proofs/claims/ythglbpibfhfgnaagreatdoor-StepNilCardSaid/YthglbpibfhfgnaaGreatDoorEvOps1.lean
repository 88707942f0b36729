/-
The operations that leave the world alone, and those that make memory: what the evaluator says of them is so.
-/
import Derived.Test.YthglbpibfhfgnaaGreatDoorEvState
set_option linter.unusedVariables false
namespace Go.Ev

theorem Rep.one {E : Env} {v : AV} {cv : Value} {l : List Nat} (h : Rep E v cv l) (h1 : C1 v = true) : cv.oneCell' = true := by
  cases h <;> first | rfl | (simp [C1] at h1; done) | skip
  · rename_i hv _; obtain ⟨p, rfl⟩ := hv; rfl
  · rename_i hv _; obtain ⟨p, q, rfl⟩ := hv; rfl
  · rename_i hv _; obtain ⟨p, rfl⟩ := hv; rfl
theorem cells_one {cv : Value} (h : cv.oneCell' = true) : cv.cells = #[cv] := by cases cv <;> first | rfl | (simp [Value.oneCell'] at h)
theorem allC1_mem : ∀ {cs : List AV}, allC1 cs = true → ∀ c ∈ cs, C1 c = true
  | [], _, _, h => by cases h
  | c :: cs, h, d, hd => by
    simp only [allC1, Bool.and_eq_true] at h
    cases hd with
    | head => exact h.1
    | tail _ hd => exact allC1_mem h.2 d hd
theorem allC1_of : ∀ {cs : List AV}, (∀ c ∈ cs, C1 c = true) → allC1 cs = true
  | [], _ => rfl
  | c :: cs, h => by simp only [allC1, Bool.and_eq_true]; exact ⟨h c (by simp), allC1_of fun d hd => h d (by simp [hd])⟩
theorem allC1_append {as bs : List AV} : allC1 (as ++ bs) = (allC1 as && allC1 bs) := by
  induction as with
  | nil => rfl
  | cons a as ih => simp [allC1, ih, Bool.and_assoc]

theorem Rep.cells {E : Env} {v : AV} {cv : Value} {l : List Nat} (h : Rep E v cv l) (h1 : allC1 (cellsOf v) = true) : RepL E (cellsOf v) cv.cells.toList l := by
  by_cases hv : ∃ cs, v = .agg cs
  · obtain ⟨cs, rfl⟩ := hv
    cases h with
    | agg h => exact h
  · have hc : cellsOf v = [v] := by
      cases v <;> first | rfl | exact absurd ⟨_, rfl⟩ hv
    rw [hc] at h1 ⊢
    have h2 : C1 v = true := by simpa [allC1] using h1
    rw [cells_one (h.one h2)]
    have := RepL.cons h (RepL.nil (E := E))
    simpa using this

/-- What an operation came to. -/
def DidG (q : Bool) (E : Env) (s : S) (a : Act) (w : World) (L : List Nat) (K : S → AV → Prop) (r : Result Value) : Prop :=
  ∃ s' v E' w' L' cv, K s' v ∧ R E' s' a w' L' ∧ Move E w L E' w' L' ∧ Rep E' v cv [] ∧ r = .ok cv w' ∧ (q = true → w' = w)
abbrev Did := DidG false

theorem Move.refl {E : Env} {s : S} {a : Act} {w : World} {L : List Nat} (h : R E s a w L) : Move E w L E w L := Move.same (g := E.g) h.heap h.own (fun _ _ h => h) h.own.nodup fun _ h => h

variable {Sp : FuncId → List AV → AV → List AV → Prop} {P : Program} {E : Env} {s : S} {a : Act} {w : World} {L : List Nat} {K : S → AV → Prop}

theorem did_ok {q : Bool} (hR : R E s a w L) {v : AV} {cv : Value} (h : outW Sp (.ok s v) K) (hv : Rep E v cv []) : DidG q E s a w L K (.ok cv w) :=
  ⟨s, v, E, w, L, cv, h, hR, .refl hR, hv, rfl, fun _ => rfl⟩

theorem outW_okO {α : Type} {o : Option α} {f : α → Out} (h : outW Sp (okO o f) K) : ∃ x, o = some x ∧ outW Sp (f x) K := by
  cases o with
  | none => exact h.elim
  | some x => exact ⟨x, rfl, h⟩

theorem nilT_rep (hv : ∀ {v : AV} {cv : Value}, Rep E v cv [] → ∀ t, Rep E (nilT P t v) cv []) : True := trivial
theorem Rep.nilT {v : AV} {cv : Value} (h : Rep E v cv []) (t : TypeId) : Rep E (Ev.nilT P t v) cv [] := by
  unfold Ev.nilT
  split
  · split
    · cases h; exact .olst0 _
    · exact h
  · exact h

theorem R.keysLt (hR : R E s a w L) : ∀ k ∈ s.b.map (·.1), k < s.n := by
  intro k hk
  have : ∀ {b : Mem} {L : List Nat}, Blks E b L → ∀ k ∈ b.map (·.1), ∃ x, E.g k = some x := by
    intro b
    induction b with
    | nil => intro _ _ k hk; cases hk
    | cons y r ih =>
      intro L h k hk
      cases h with
      | cons h t =>
        simp only [List.map_cons, List.mem_cons] at hk
        rcases hk with rfl | hk
        · exact h.loc
        · exact ih t k hk
  obtain ⟨x, hx⟩ := this hR.blk k hk
  exact hR.gn k x hx

/-- A value with what it owns is taken in. -/
theorem unf_did {q : Bool} (hR : R E s a w L) {v : AV} {cv : Value} (hv : Rep E v cv []) (h : outW Sp (moveO s v (unf v s.b s.n)) K) : DidG q E s a w L K (.ok cv w) := by
  unfold moveO at h
  split at h
  · exact did_ok hR h hv
  · obtain ⟨g, L', r⟩ := unf_ok hR.own.sub v cv s.b s.n [] L hv hR.blk hR.gn hR.keys hR.keysLt
    have hp : L'.Perm L := by simpa using r.perm
    have hm : Move E w L { E with g := g } w L' := .same hR.heap hR.own r.old (hp.nodup_iff.2 hR.own.nodup) fun b hb => hp.mem_iff.1 hb
    exact ⟨_, _, _, _, _, cv, h, hR.step hm r.blk r.keys r.gn, hm, r.rep, rfl, fun _ => rfl⟩

theorem pick_did (hR : R E s a w L) {c x y : AV} {cc cx cy : Value} (hc : Rep E c cc []) (hx : Rep E x cx []) (hy : Rep E y cy []) (h : outW Sp (pickO s c x y) K) :
    DidG true E s a w L K ((do pure (if ← asBool cc then cx else cy) : Sem Value).run P w) := by
  unfold pickO at h
  split at h
  · cases hc; cases hx; cases hy
    simp only [asBool, Sem.run_bind, Sem.run_pure, Result.andThen_ok]
    refine did_ok hR h ?_
    split <;> constructor
  · cases hc
    simp only [asBool, Sem.run_bind, Sem.run_pure, Result.andThen_ok]
    refine did_ok hR h ?_
    split <;> assumption
  · exact h.elim

/-- A new block of one object. -/
theorem box_move (hR : R E s a w L) {v : AV} {cv : Value} (ty : TypeId) {l : List Nat} (hv : Rep E v cv l) (hl : l = []) (h1 : allC1 (cellsOf v) = true) :
    ∃ E', Move E w L E' (w.alloc (.cells cv.cells ty)) (w.heap.size :: L) ∧ R E' { s with b := (s.n, .obj v) :: s.b, n := s.n + 1 } a (w.alloc (.cells cv.cells ty)) (w.heap.size :: L) ∧
      Rep E' (.loc s.n 0) (.pointer (some ⟨w.heap.size, 0, none⟩)) [] := by
  subst hl
  let x : Loc := ⟨true, some w.heap.size, 0, 0, 0⟩
  let E' : Env := { h := (w.alloc (.cells cv.cells ty)).heap, st := E.st, g := updG E.g s.n x }
  have hsz : E.h.size = w.heap.size := by rw [hR.heap]
  have hext : ∀ l : List Nat, (∀ b ∈ l, b < w.heap.size) → Ext E E' l := fun l hl =>
    ⟨fun b hb => by
      have hb' : b < w.heap.size := by
        rcases hb with hb | hb
        · rw [← hsz]; exact hR.own.stlt _ _ hb
        · exact hl b hb
      show (w.heap.push _)[b]? = E.h[b]?
      rw [hR.heap, Array.getElem?_push_lt hb', Array.getElem?_eq_getElem hb'], fun _ _ h => h, hR.own.sub, fun id y hy => ⟨y, updG_old hR.gn id y hy, .inl rfl⟩⟩
  have hlt : ∀ b ∈ L, b < w.heap.size := fun b hb => by rw [← hsz]; exact hR.own.lt b hb
  have hnew : E'.h[w.heap.size]? = some (.cells cv.cells ty (0, 0)) := by
    show (w.heap.push _)[w.heap.size]? = _
    simp
  have hmove : Move E w L E' (w.alloc (.cells cv.cells ty)) (w.heap.size :: L) := by
    refine ⟨hext [] (by simp), rfl, by simp, fun b hb _ => ?_, fun _ _ h => .inl h, fun b hb => ?_, ?_, rfl, rfl, rfl, fun _ h => .inl h⟩
    · show (w.heap.push _)[b]? = w.heap[b]?
      rw [Array.getElem?_push_lt hb, Array.getElem?_eq_getElem hb]
    · rcases List.mem_cons.1 hb with rfl | hb
      · exact .inr (Nat.le_refl _)
      · exact .inl hb
    · refine ⟨List.nodup_cons.2 ⟨fun hm => by have := hlt _ hm; omega, hR.own.nodup⟩, fun b hb => ?_, fun b hb => ?_, fun fl b hb => ?_, hR.own.sub⟩
      · show b < (w.heap.push _).size
        rcases List.mem_cons.1 hb with rfl | hb
        · simp
        · have := hlt b hb; simp; omega
      · rcases List.mem_cons.1 hb with rfl | hb
        · intro hst; have := hR.own.stlt _ _ hst; omega
        · exact hR.own.off b hb
      · have := hR.own.stlt _ _ hb
        show b < (w.heap.push _).size
        simp; omega
  refine ⟨E', hmove, ?_, .loc (l := x) updG_new rfl rfl⟩
  refine hR.step hmove (b := (s.n, .obj v) :: s.b) (n := s.n + 1) ?_ ?_ (updG_lt hR.gn)
  · have hb : BlkRep E' s.n (.obj v) [w.heap.size] := .obj (x := x) updG_new rfl rfl hnew (by intro k _ hk; exact Nat.not_lt_zero _ hk.2) h1 ((hv.cells h1).ext (hext [] (by simp)))
    exact Blks.cons (l := [w.heap.size]) hb (hR.blk.ext (hext L hlt) fun id hid => by
      have := hR.keysLt id hid
      simp only [E', updG, if_neg (show ¬ id = s.n by omega)])
  · simp only [List.map_cons, List.nodup_cons]
    exact ⟨fun hm => by have := hR.keysLt _ hm; omega, hR.keys⟩

theorem box_did (hR : R E s a w L) {v : AV} {cv : Value} (ty : TypeId) (hv : Rep E v cv []) (h : outW Sp (boxO s v) K) :
    Did E s a w L K ((Instr.box ty cv).run P w) := by
  obtain ⟨h1, h⟩ := h
  obtain ⟨E', hm, hr, hv'⟩ := box_move hR ty hv rfl h1
  exact ⟨_, _, _, _, _, _, h, hr, hm, hv', by simp [Instr.box, newVar, newRow], fun h => nomatch h⟩

theorem size_zero {a b : ByteArray} (h1 : a.size = 0) (h2 : b.size = 0) : a = b := by
  apply ByteArray.ext
  apply Array.ext'
  have e1 : a.data.toList = [] := List.eq_nil_of_length_eq_zero (by simpa using h1)
  have e2 : b.data.toList = [] := List.eq_nil_of_length_eq_zero (by simpa using h2)
  rw [e1, e2]
theorem zfit_rep {v : AV} {cv : Value} (h : zfit v cv = true) : Rep E v cv [] := by
  unfold zfit at h
  split at h
  · exact .olst0 _
  · simp only [beq_iff_eq] at h; subst h; exact .bool _
  · simp only [Bool.and_eq_true, beq_iff_eq] at h; obtain ⟨rfl, rfl⟩ := h; exact .int _ _
  · simp only [Bool.and_eq_true, beq_iff_eq] at h
    obtain rfl := size_zero h.1 h.2
    exact .str _ (by rw [h.1]; simp [MX])
  · exact .nilp
  · exact .nilf
  · exact .nili
  · exact .nilm
  · cases h
theorem zfitL_rep : ∀ {v : List AV} {cv : List Value}, zfitL v cv = true → RepL E v cv []
  | [], [], _ => .nil
  | a :: r, v :: q, h => by
    simp only [zfitL, Bool.and_eq_true] at h
    exact .cons (l := []) (m := []) (zfit_rep h.1) (zfitL_rep h.2)
  | [], _ :: _, h => by simp [zfitL] at h
  | _ :: _, [], h => by simp [zfitL] at h
theorem zfitA_rep {v : AV} {cv : Value} (h : zfitA v cv = true) : Rep E v cv [] := by
  unfold zfitA at h
  split at h
  · exact .agg (zfitL_rep h)
  · exact zfit_rep h
theorem zeroT_rep {t : TypeId} (h : C1 (zeroT P t) = true ∨ ∃ cs, zeroT P t = .agg cs) : ∃ z, (P.info? t).bind (·.zero) = some z ∧ Rep E (zeroT P t) z [] := by
  unfold zeroT at *
  split at h
  · rename_i z hz
    split at h
    · rename_i hf; exact ⟨z, hz, by simp only [hf, if_true]; exact zfitA_rep hf⟩
    · simp [C1] at h
  · simp [C1] at h

theorem alloc_did (hR : R E s a w L) (ty : TypeId) (h : outW Sp (boxO s (zeroT P ty)) K) :
    Did E s a w L K ((Instr.alloc ty true (.tuple #[])).run P w) := by
  obtain ⟨h1, h⟩ := h
  have hz : C1 (zeroT P ty) = true ∨ ∃ cs, zeroT P ty = .agg cs := by
    revert h1
    generalize zeroT P ty = z
    intro h1
    cases z <;> first | exact .inr ⟨_, rfl⟩ | (left; simpa [cellsOf, allC1] using h1)
  obtain ⟨z, hz, hv⟩ := zeroT_rep (E := E) hz
  obtain ⟨E', hm, hr, hv'⟩ := box_move hR ty hv rfl h1
  obtain ⟨i, hi, hz⟩ := Option.bind_eq_some_iff.1 hz
  exact ⟨_, _, _, _, _, _, h, hr, hm, hv', by simp [Instr.alloc, zeroValue, typeInfo, hi, hz, newVar, newRow], fun h => nomatch h⟩
end Go.Ev
