import Derived.MapKept
import Derived.Test.YtlkcehghfhdbjaaT0
set_option linter.unusedVariables false
set_option linter.unusedSimpArgs false
/-
Slices and structs that are built.
-/
set_option linter.unusedVariables false
set_option linter.unusedSimpArgs false
namespace Go.Ev
variable {Sp : FuncId → List AV → AV → List AV → Prop} {P : Program} {E : Env} {s : S} {a : Act} {w : World} {L : List Nat} {K : S → AV → Prop}

theorem foldl_set : ∀ (cs : List Value) (k off : Nat) (arr : Array Value), off + k + cs.length ≤ arr.size →
    ((cs.zipIdx k).foldl (fun (x : Array Value) (p : Value × Nat) => x.setIfInBounds (off + p.2) p.1) arr).toList = arr.toList.take (off + k) ++ (cs ++ arr.toList.drop (off + k + cs.length))
  | [], k, off, arr, _ => by simp
  | c :: cs, k, off, arr, h => by
    simp only [List.length_cons] at h
    rw [List.zipIdx_cons, List.foldl_cons, foldl_set cs (k + 1) off _ (by simp; omega)]
    have e1 : (arr.setIfInBounds (off + k) c).toList = arr.toList.take (off + k) ++ (c :: arr.toList.drop (off + k + 1)) := by
      rw [Array.toList_setIfInBounds, List.set_eq_take_append_cons_drop, if_pos (by simp; omega)]
    have hlen : (arr.toList.take (off + k)).length = off + k := by simp; omega
    rw [e1]
    have e3 : (arr.toList.take (off + k) ++ c :: arr.toList.drop (off + k + 1)).take (off + (k + 1)) = arr.toList.take (off + k) ++ [c] := by
      rw [List.take_append, hlen, List.take_of_length_le (by omega), show off + (k + 1) - (off + k) = 1 by omega]
      simp
    have e4 : (arr.toList.take (off + k) ++ c :: arr.toList.drop (off + k + 1)).drop (off + (k + 1) + cs.length) = arr.toList.drop (off + k + (cs.length + 1)) := by
      rw [List.drop_append, hlen, List.drop_eq_nil_of_le (by omega), List.nil_append, show off + (k + 1) + cs.length - (off + k) = cs.length + 1 by omega, List.drop_succ_cons, List.drop_drop]
      congr 1; omega
    rw [e3, e4]
    simp

theorem fill_one {place : Nat → Option (Nat × Nat)} {cells : Array Value} {i off size : Nat} {v : Value} {rest : List (Nat × Value)} (hp : place i = some (off, size)) (hs : v.cells.size = size) (hl : off + size ≤ cells.size) :
    Instr.fill place cells ((i, v) :: rest) = Instr.fill place (cells.toList.take off ++ (v.cells.toList ++ cells.toList.drop (off + size))).toArray rest := by
  have h1 := foldl_set v.cells.toList 0 off cells (by simp; omega)
  simp only [Instr.fill, hp]
  have hc : ¬ ((v.cells.size ≠ size || off + v.cells.size > cells.size) = true) := by simp; omega
  rw [if_neg hc]
  congr 1
  rw [← Array.foldl_toList, Array.toList_zipIdx]
  have : ∀ x y : Array Value, x.toList = y.toList → x = y := fun x y h => Array.ext' h
  refine this _ _ ?_
  simp only [Nat.add_zero, Array.length_toList, hs] at h1
  simpa using h1

theorem fill_all {size : Nat} : ∀ (vals : List Value) (k : Nat) (pre post : List Value), (∀ v ∈ vals, v.cells.size = size) → pre.length = k * size → post.length = vals.length * size →
    Instr.fill (fun i => some (i * size, size)) (pre ++ post).toArray ((List.range' k vals.length).zip vals) = some (pre ++ vals.flatMap fun v => v.cells.toList).toArray
  | [], k, pre, post, _, _, h => by
    obtain rfl := List.eq_nil_of_length_eq_zero (by simpa using h)
    simp [Instr.fill]
  | v :: vals, k, pre, post, hv, hp, h => by
    have hvs := hv v (by simp)
    simp only [List.length_cons, Nat.add_mul, Nat.one_mul] at h
    rw [List.length_cons, List.range'_succ, List.zip_cons_cons, fill_one (off := k * size) (size := size) rfl hvs (by simp; omega)]
    have e1 : (pre ++ post).toArray.toList.take (k * size) = pre := by simp only [List.toList_toArray]; rw [← hp, List.take_left]
    have e2 : (pre ++ post).toArray.toList.drop (k * size + size) = post.drop size := by
      simp only [List.toList_toArray]; rw [← hp, ← List.drop_drop, List.drop_left]
    rw [e1, e2, ← List.append_assoc, fill_all vals (k + 1) (pre ++ v.cells.toList) (post.drop size) (fun u hu => hv u (by simp [hu])) (by simp [hp, hvs, Nat.add_mul]) (by simp; omega)]
    simp

theorem fields_eval (hR : R E s a w L) : ∀ {ps : List (Nat × Operand)} {fs : List (Nat × AV)}, fieldsOf s ps = some fs → fs.map (·.1) = ps.map (·.1) ∧ RepL E (fs.map (·.2)) (ps.map fun p => a.eval p.2) []
  | [], fs, h => by simp [fieldsOf] at h; subst h; exact ⟨rfl, .nil⟩
  | p :: ps, fs, h => by
    simp only [fieldsOf, Option.bind_eq_some_iff, Option.map_eq_some_iff] at h
    obtain ⟨v, hv, q, hq, rfl⟩ := h
    obtain ⟨h1, h2⟩ := fields_eval hR hq
    exact ⟨by simp [h1], .cons (l := []) (m := []) (hR.eval hv) h2⟩

theorem flat_cells {sz : Nat} : ∀ {es : List AV} {vs : List Value}, RepL E es vs [] → (∀ e ∈ es, okE sz e) → RepL E (flat es) (vs.flatMap fun v => v.cells.toList) [] ∧ ∀ v ∈ vs, v.cells.size = sz
  | [], vs, h, _ => by cases h; exact ⟨.nil, by simp⟩
  | e :: es, vs, h, hz => by
    obtain ⟨v, vs', l1, l2, rfl, hl, h1, h2⟩ := h.inv
    obtain ⟨rfl, rfl⟩ : l1 = [] ∧ l2 = [] := by simpa using hl.symm
    obtain ⟨g1, g2⟩ := flat_cells h2 fun x hx => hz x (by simp [hx])
    have he := hz e (by simp)
    have hc := h1.cells he.2
    refine ⟨?_, fun u hu => ?_⟩
    · have := hc.append g1
      simpa [flat] using this
    · rcases List.mem_cons.1 hu with rfl | hu
      · have := hc.length; rw [he.1] at this; simpa using this.symm
      · exact g2 u hu

theorem zip_parts {ps : List (Nat × Operand)} {n : Nat} (ev : Operand → Value) (h : ps.map (·.1) = List.range n) (hn : ps.length = n) : (ps.map fun p => (p.1, ev p.2)) = (List.range' 0 n).zip (ps.map fun p => ev p.2) := by
  rw [← List.range_eq_range', ← h, List.zip_map']

/-- A new row of this activation. -/
theorem row_alloc (hR : R E s a w L) {e : TypeId} {sz : Nat} {els : List AV} {w1 : World} (hw : w1.heap = w.heap) (ho : w1.os = w.os) (ht : w1.tape = w.tape) (hu : w1.output = w.output) {cells : Array Value} {cap : Nat} {vs : List Value}
    (hz : ∀ e ∈ els, okE sz e) (hv : RepL E (flat els) vs []) (hc : cells.toList.take (els.length * sz) = vs) (hsz : cells.size = cap * sz) (hle : els.length ≤ cap) (hm : els.length ≤ MX) :
    ∃ E' L', R E' { s with b := (s.n, .row sz els false) :: s.b, n := s.n + 1 } a (w1.alloc (.cells cells e)) L' ∧ Move E w L E' (w1.alloc (.cells cells e)) L' ∧
      Rep E' (.row s.n els.length 0 els.length) (.slice (some ⟨w.heap.size, 0, none⟩) els.length cap) [] := by
  let x : Loc := ⟨false, some w.heap.size, cap, els.length, sz⟩
  obtain ⟨hmv, hext, hnew⟩ := alloc_move hR w1 hw ho ht hu (.cells cells e) (g := updG E.g s.n x) (fun id y hy => ⟨y, updG_old hR.gn id y hy, .inl rfl⟩) (L' := L) hR.own.nodup fun _ h => h
  refine ⟨_, _, hR.step hmv (b := (s.n, .row sz els false) :: s.b) (n := s.n + 1) ?_ ?_ (updG_lt hR.gn), hmv, ?_⟩
  · have hb : BlkRep { h := (w1.alloc (.cells cells e)).heap, st := E.st, g := updG E.g s.n x } s.n (.row sz els false) [w.heap.size] :=
      .row (x := x) updG_new rfl rfl rfl rfl hnew (by intro k _ hk; exact Nat.not_lt_zero _ hk.2) hsz hle hm hz (by rw [hc]; exact hv.ext (hext [] (by simp)))
    exact Blks.cons (l := [w.heap.size]) hb (hR.blk.ext (hext L fun _ h => h) fun id hid => by
      have := hR.keysLt id hid
      simp only [updG, if_neg (show ¬ id = s.n by omega)])
  · simp only [List.map_cons, List.nodup_cons]
    exact ⟨fun hm => by have := hR.keysLt _ hm; omega, hR.keys⟩
  · exact .row (l := x) updG_new rfl (Nat.le_refl _) ⟨_, _, rfl⟩ fun _ => ⟨_, rfl, fun _ => by simp [x]⟩

theorem buildSlice_did (hR : R E s a w L) {t e : TypeId} {n : Nat} {ps : List (Nat × Operand)} {fs : List (Nat × AV)} (hk : kindT P t = .slice e) (hf : fieldsOf s ps = some fs)
    (h : outW Sp (buildSliceO s (zok P e) (szT P e) n (fs.map (·.1)) (frzL s.b (fs.map (·.2)))) K) :
    Did E s a w L K ((Instr.buildSlice t n (ps.map fun p => (p.1, a.eval p.2)).toArray).run P w) := by
  obtain ⟨⟨hzk, hn, hix, hbound, hmx, hfr, hok⟩, hK⟩ := h
  obtain ⟨hf1, hf2⟩ := fields_eval hR hf
  obtain ⟨E1, L1, hR1, hm1, hr1, _⟩ := frzL_ok hR hf2 hfr
  obtain ⟨i, z, hi, hz, hzs, hipos, hisz, hiby⟩ := zok_is hzk
  have hu := kind_slice hk
  obtain ⟨g1, g2⟩ := flat_cells hr1 hok
  have hpl : (ps.map fun p => a.eval p.2).length = n := by rw [← hr1.length, hn]
  have hpl' : ps.length = n := by simpa using hpl
  have hcs : ((ps.map fun p => a.eval p.2).flatMap fun v => v.cells.toList).length = n * szT P e := by
    rw [← g1.length, flat_len hok, ← hn]
  have hrun : (Instr.buildSlice t n (ps.map fun p => (p.1, a.eval p.2)).toArray).run P w = .ok (.slice (some ⟨w.heap.size, 0, none⟩) n n) (w.alloc (.cells ((ps.map fun p => a.eval p.2).flatMap fun v => v.cells.toList).toArray e)) := by
    have hfill : Instr.fill (fun i => some (i * szT P e, szT P e)) ((Array.range (n * szT P e)).map (fun j => (if n * szT P e = 0 then #[] else z.cells)[j % (if n * szT P e = 0 then #[] else z.cells).size]!)) (ps.map fun p => (p.1, a.eval p.2)) =
        some ((ps.map fun p => a.eval p.2).flatMap fun v => v.cells.toList).toArray := by
      rw [zip_parts a.eval (hf1.symm.trans hix) hpl']
      have := fill_all (size := szT P e) (ps.map fun p => a.eval p.2) 0 [] (((Array.range (n * szT P e)).map (fun j => (if n * szT P e = 0 then #[] else z.cells)[j % (if n * szT P e = 0 then #[] else z.cells).size]!)).toList) g2 (by simp) (by simp [hpl'])
      rw [List.length_map, hpl', List.nil_append, Array.toArray_toList, List.nil_append] at this
      exact this
    have hnb : ¬ (n * szT P e > 2 ^ 24) := by omega
    simp only [Instr.buildSlice, Sem.run_bind, run_underlying hu, Result.andThen_ok, run_sizeOf hi, hisz, if_neg hnb, Sem.run_ite]
    by_cases h0 : n * szT P e = 0
    · simp only [h0, if_true] at hfill ⊢
      simp only [Sem.run_pure, Result.andThen_ok]
      rw [hfill]
      simp [newRow]
    · simp only [h0, if_false] at hfill ⊢
      simp only [zeroValue, typeInfo, Sem.run_bind, run_program, Result.andThen_ok, hi, Sem.run_pure, hz]
      rw [hfill]
      simp [newRow]
  rw [hrun]
  obtain ⟨E2, L2, hR2, hm2, hv2⟩ := row_alloc hR1 (e := e) (sz := szT P e) (els := (frzL s.b (fs.map (·.2))).1) (w1 := w) rfl rfl rfl rfl (cells := ((ps.map fun p => a.eval p.2).flatMap fun v => v.cells.toList).toArray) (cap := n) (vs := (ps.map fun p => a.eval p.2).flatMap fun v => v.cells.toList)
    hok g1 (by rw [← hn]; simp only [List.toList_toArray]; exact List.take_of_length_le (by omega)) (by simpa using hcs) (by omega) (by rw [← hn]; exact hmx)
  rw [← hn] at hv2 hK
  exact ⟨_, _, E2, _, L2, _, hK, hR2, hm1.trans hm2 (fun fl b hb => by rw [← hR.heap]; exact hR.own.stlt fl b hb) hR1.own.off, hv2, rfl, fun h => nomatch h⟩

/-! ### Structs -/
theorem offT_is {t : TypeId} {f o : Nat} (h : offT P t f = some o) : ∃ fs x, P.underlying t = some (.struct fs) ∧ fs[f]? = some x ∧ x.offset = o ∧ fszT P t f = szT P x.type ∧ 0 < szT P x.type := by
  unfold offT at h
  split at h
  · rename_i fs hu
    split at h
    · rename_i x hx
      split at h
      · cases h
      · rename_i hz
        injection h with h
        exact ⟨fs, x, hu, hx, h, by simp [fszT, hu, hx], by omega⟩
    · cases h
  · cases h

theorem places_run (w : World) : ∀ (fs : List Field), (∀ x ∈ fs, ∃ i, P.info? x.type = some i) →
    (fs.mapM (fun f => do pure (f.offset, ← sizeOf f.type)) : Sem (List (Nat × Nat))).run P w = .ok (fs.map fun f => (f.offset, szT P f.type)) w
  | [], _ => by simp
  | f :: fs, h => by
    obtain ⟨i, hi⟩ := h f (by simp)
    have ih := places_run w fs fun x hx => h x (by simp [hx])
    simp only [List.mapM_cons, Sem.run_bind, run_sizeOf hi, Result.andThen_ok, Sem.run_pure, ih, List.map_cons]
    simp [szT, hi]

theorem fillA_run {t : TypeId} {fds : Array Field} (hu : P.underlying t = some (.struct fds)) : ∀ {fs : List (Nat × AV)} {ps : List (Nat × Value)} {cs cs' : List AV} {vs : List Value} {E : Env},
    fs.map (·.1) = ps.map (·.1) → RepL E (fs.map (·.2)) (ps.map (·.2)) [] → RepL E cs vs [] → fillA P t fs cs = some cs' →
    ∃ vs', Instr.fill ((fds.map fun f => (f.offset, szT P f.type))[·]?) vs.toArray ps = some vs'.toArray ∧ RepL E cs' vs' []
  | [], ps, cs, cs', vs, E, h1, h2, h3, h => by
    cases ps with
    | nil => simp only [fillA, Option.some.injEq] at h; subst h; exact ⟨vs, by simp [Instr.fill], h3⟩
    | cons p ps => simp at h1
  | (f, v) :: fs, ps, cs, cs', vs, E, h1, h2, h3, h => by
    cases ps with
    | nil => simp at h1
    | cons p ps =>
      obtain ⟨pi, pv⟩ := p
      simp only [List.map_cons, List.cons.injEq] at h1
      obtain ⟨rfl, h1⟩ := h1
      simp only [List.map_cons] at h2
      obtain ⟨v', vs', l1, l2, e, hl, hv, ht⟩ := h2.inv
      injection e with e1 e2
      subst e1 e2
      obtain ⟨rfl, rfl⟩ : l1 = [] ∧ l2 = [] := by simpa using hl.symm
      simp only [fillA, Option.bind_eq_some_iff] at h
      obtain ⟨o, ho, h⟩ := h
      split at h
      · rename_i hc
        obtain ⟨hc1, hc2, hc3⟩ := hc
        obtain ⟨fds', x, hu', hx, hxo, hfs, hpos⟩ := offT_is ho
        obtain rfl : fds' = fds := by rw [hu] at hu'; injection hu' with h; injection h with h; exact h.symm
        have hcells := hv.cells hc3
        have hvs : pv.cells.size = szT P x.type := by rw [← hfs, hc1]; have := hcells.length; simpa using this.symm
        have hlen := h3.length
        have hplace : (fds'.map fun f => (f.offset, szT P f.type))[f]? = some (o, szT P x.type) := by simp [hx, hxo]
        rw [fill_one hplace hvs (by simp; omega)]
        refine fillA_run hu h1 ht ?_ h
        simp only [List.toList_toArray]
        have e1 : putAt cs o (cellsOf v) = cs.take o ++ (cellsOf v ++ cs.drop (o + (cellsOf v).length)) := by simp [putAt]
        rw [e1, ← hc1, hfs]
        have := (h3.take o).append (hcells.append (h3.drop (o + szT P x.type)))
        simpa using this
      · cases h

theorem build_did (hR : R E s a w L) {t : TypeId} {ps : List (Nat × Operand)} {fs : List (Nat × AV)} {z cs : List AV} (hf : fieldsOf s ps = some fs) (hz : aggOf (zeroT P t) = some z) (hfo : fieldsOk P t = true)
    (hcs : fillA P t fs z = some cs) (h : outW Sp (moveO s (.agg cs) (unf (.agg cs) s.b s.n)) K) :
    DidG true E s a w L K ((Instr.build t (ps.map fun p => (p.1, a.eval p.2)).toArray).run P w) := by
  obtain ⟨hf1, hf2⟩ := fields_eval hR hf
  have hzt : zeroT P t = .agg z := by
    unfold aggOf at hz; split at hz
    · rename_i vs he; injection hz with hz; subst hz; exact he
    · cases hz
  obtain ⟨zv, hzv, hrz⟩ := zeroT_rep (P := P) (E := E) (t := t) (.inr ⟨z, hzt⟩)
  rw [hzt] at hrz
  obtain ⟨i, hi, hzi⟩ := Option.bind_eq_some_iff.1 hzv
  unfold fieldsOk at hfo
  split at hfo
  · rename_i fds hu
    cases hrz with
    | agg hrz =>
      rename_i zvs
      obtain ⟨vs', h1, h2⟩ := fillA_run (ps := ps.map fun p => (p.1, a.eval p.2)) hu (by simpa [Function.comp_def] using hf1) (by simpa [Function.comp_def] using hf2) hrz hcs
      have hpl := places_run (P := P) w fds.toList fun x hx => by
        have := List.all_eq_true.1 hfo x hx
        exact Option.isSome_iff_exists.1 this
      have hrun : (Instr.build t (ps.map fun p => (p.1, a.eval p.2)).toArray).run P w = .ok (.agg vs'.toArray) w := by
        have hm : (fds.mapM (fun f => do pure (f.offset, ← sizeOf f.type)) : Sem (Array (Nat × Nat))).run P w = .ok (fds.map fun f => (f.offset, szT P f.type)) w := by
          rw [Array.mapM_eq_mapM_toList, Sem.run_map, hpl]
          simp only [Result.andThen_ok]
          congr 1
          apply Array.ext'
          simp
        simp only [Instr.build, Sem.run_bind, zeroValue, typeInfo, run_program, hi, Result.andThen_ok, Sem.run_pure, hzi, run_underlying hu, hm, Value.cells]
        simp only [Array.toArray_toList] at h1
        rw [show (zvs : Array Value) = zvs from rfl]
        simp only [List.toList_toArray, h1, Sem.run_pure]
      rw [hrun]
      exact unf_did hR (.agg (by simpa using h2)) h
  · cases hfo

/-- append to a part without room. -/
theorem appendC_did (hR : R E s a w L) {t ty e : TypeId} (hk : kindT P t = .slice e) {id n off len : Nat} {cx cy : Value} {y : AV} (hx : Rep E (.rowc id n off len) cx []) (hy : Rep E y cy [])
    (h : outW Sp (appendO s (zok P e) (szT P e) (byT P e) (.rowc id n off len) y) K) : Did E s a w L K ((Builtin.append_ #[t, t] ty #[cx, cy]).run P w) := by
  simp only [appendO] at h
  obtain ⟨wsz, ws, hA, hsx⟩ := els_src hR hx h
  obtain ⟨xsz, xs, hB, hsy⟩ := els_src hR hy hA
  obtain ⟨⟨hzk, hne, rfl, rfl, hby, hmx⟩, hK⟩ := hB
  have hu := kind_slice hk
  obtain ⟨i, z, hi, hz, hzs, hipos, hisz, hiby⟩ := zok_is hzk
  obtain ⟨xo, xcap, rfl, hxv⟩ := hsx.is
  obtain ⟨yo, ycap, rfl, hyv⟩ := hsy.is
  obtain ⟨ad, news, rfl, hnews, hrn⟩ := hyv hne
  have hnl : news.length = xs.length * i.size := by rw [← hrn.length, flat_len hsy.z, hisz]
  have hpos : 0 < xs.length := List.length_pos_iff.2 hne
  have hby' : (ws.length + xs.length) * i.bytes ≤ 140737488355328 := by rw [hiby]; exact hby
  obtain rfl : xcap = ws.length := by
    cases hx with
    | rowc hg ho hn hv hh => obtain ⟨a', hv⟩ := hv; injection hv with h1 h2 h3; omega
  obtain ⟨olds, hro, hrun⟩ : ∃ olds : List Value, RepL E (flat ws) olds [] ∧ (Builtin.append_ #[t, t] ty #[.slice xo ws.length ws.length, .slice (some ad) xs.length ycap]).run P w =
      .ok (.slice (some ⟨w.heap.size, 0, none⟩) (ws.length + xs.length) (grownCap w (ws.length + xs.length) ws.length e))
        (w.drew.alloc (.cells (olds.toArray ++ news.toArray ++ Builtin.zeroCells z.cells (grownCap w (ws.length + xs.length) ws.length e - (ws.length + xs.length))) e)) := by
    have grow : ∀ (b : Addr) (olds : List Value), RepL E (flat ws) olds [] → xo = some b → (∀ j v, olds[j]? = some v → w.cell? (b.add j) = some v) → ∃ olds : List Value, RepL E (flat ws) olds [] ∧ (Builtin.append_ #[t, t] ty #[.slice xo ws.length ws.length, .slice (some ad) xs.length ycap]).run P w =
      .ok (.slice (some ⟨w.heap.size, 0, none⟩) (ws.length + xs.length) (grownCap w (ws.length + xs.length) ws.length e))
        (w.drew.alloc (.cells (olds.toArray ++ news.toArray ++ Builtin.zeroCells z.cells (grownCap w (ws.length + xs.length) ws.length e - (ws.length + xs.length))) e)) := by
      rintro b olds hro rfl holds
      exact ⟨olds, hro, run_append_grow (P := P) w t ty e i z hu hi hz b ws.length ws.length olds (by rw [← hro.length, flat_len hsx.z, hisz]) holds ad xs.length ycap news hnl hnews (by omega) (by omega) (growslice_fits (by omega) hby')⟩
    by_cases hws : ws = []
    · subst hws
      cases xo with
      | some b => exact grow b [] (by exact .nil) rfl (by simp)
      | none =>
        refine ⟨[], .nil, ?_⟩
        have hr := run_append_nil (P := P) w t ty e i z hu hi hz ad xs.length ycap news hnl hnews hpos (by omega) (by
          have : xs.length * i.bytes ≤ 140737488355328 := by simpa using hby'
          omega)
        simp only [List.length_nil, Nat.zero_add]
        rw [hr]
        congr 2
        simp
    · obtain ⟨b, olds, rfl, h1, h2⟩ := hxv hws
      exact grow b olds h2 rfl h1
  rw [hrun]
  have hok : ∀ x ∈ ws ++ xs, okE (szT P e) x := fun x hx => (List.mem_append.1 hx).elim (hsx.z x) (hsy.z x)
  have hcap := grownCap_ge w (ws.length + xs.length) ws.length e
  have ho' := hro.length
  rw [flat_len hsx.z] at ho'
  have hrep : RepL E (flat (ws ++ xs)) (olds ++ news) [] := by rw [flat_append]; simpa using hro.append hrn
  obtain ⟨E2, L2, hR2, hm2, hv2⟩ := row_alloc hR (e := e) (sz := szT P e) (els := ws ++ xs) (w1 := w.drew) rfl rfl rfl rfl
    (cells := olds.toArray ++ news.toArray ++ Builtin.zeroCells z.cells (grownCap w (ws.length + xs.length) ws.length e - (ws.length + xs.length))) (cap := grownCap w (ws.length + xs.length) ws.length e) (vs := olds ++ news)
    hok hrep (by
      have : (ws ++ xs).length * szT P e = (olds ++ news).length := by rw [List.length_append, List.length_append, ← ho', hnl, Nat.add_mul, hisz]
      rw [this]
      simp only [Array.toList_append]
      rw [List.take_left' (by simp)]) (by
      simp only [Array.size_append, List.size_toArray, size_zeroCells, hzs, ← ho', hnl, hisz, ← Nat.add_mul]
      congr 1
      omega) (by simpa using hcap) (by simpa [MX] using hmx)
  rw [List.length_append] at hv2
  exact ⟨_, _, E2, _, L2, _, hK, hR2, hm2, hv2, rfl, fun h => nomatch h⟩
end Go.Ev

/-
What a call takes along, and what comes back.
-/
set_option linter.unusedVariables false
set_option linter.unusedSimpArgs false
namespace Go.Ev
variable {Sp : FuncId → List AV → AV → List AV → Prop} {P : Program} {E : Env} {s : S} {a : Act} {w : World} {L : List Nat} {K : S → AV → Prop}

structure FoldOk (E : Env) (v' : AV) (cv : Value) (b b' : Mem) (l L l' L' rest : List Nat) (v : AV) : Prop where
  rep : Rep E v' cv l'
  blk : Blks E b' L'
  perm : (l' ++ (L' ++ rest)).Perm (l ++ L)
  bd : Bd 0 v'
  keys : (b'.map (·.1)).Sublist (b.map (·.1))
  c1 : C1 v = true → C1 v' = true
structure FoldOkL (E : Env) (v' : List AV) (cv : List Value) (b b' : Mem) (l L l' L' rest : List Nat) (v : List AV) : Prop where
  rep : RepL E v' cv l'
  blk : Blks E b' L'
  perm : (l' ++ (L' ++ rest)).Perm (l ++ L)
  bd : BdL 0 v'
  keys : (b'.map (·.1)).Sublist (b.map (·.1))
  c1 : allC1 v = true → allC1 v' = true
  len : v'.length = v.length

theorem rep_all {a : AV} {cv : Value} (h : Rep E a cv []) {b : Mem} {L : List Nat} (hb : Blks E b L) (hbd : Bd 0 a) : True := trivial

theorem take_flat {els : List AV} {sz n : Nat} (hz : ∀ e ∈ els, okE sz e) : flat (els.take n) = (flat els).take (n * sz) := by
  have := flat_drop_take (l := 0) (n := n) hz
  simpa using this

theorem fold_ok_both : ∀ (k : Nat),
    (∀ (b : Mem) (v v' : AV) (b' : Mem) (p : Prop), fold k b v = some (v', b', p) → p → ∀ (cv : Value) (l L : List Nat), Rep E v cv l → Blks E b L → (b.map (·.1)).Nodup → ∃ l' L' rest, FoldOk E v' cv b b' l L l' L' rest v) ∧
    (∀ (b : Mem) (v v' : List AV) (b' : Mem) (p : Prop), foldL k b v = some (v', b', p) → p → ∀ (cv : List Value) (l L : List Nat), RepL E v cv l → Blks E b L → (b.map (·.1)).Nodup → ∃ l' L' rest, FoldOkL E v' cv b b' l L l' L' rest v)
  | 0 => ⟨fun b v v' b' p h => by simp [fold] at h, fun b v v' b' p h => by simp [foldL] at h⟩
  | k + 1 => by
    obtain ⟨ih1, ih2⟩ := fold_ok_both k
    constructor
    · intro b v v' b' p h hp cv l L hv hb hk
      have dflt : some (v, b, Bd 0 v) = some (v', b', p) → ∃ l' L' rest, FoldOk E v' cv b b' l L l' L' rest v := by
        intro h
        simp only [Option.some.injEq, Prod.mk.injEq] at h
        obtain ⟨rfl, rfl, rfl⟩ := h
        exact ⟨l, L, [], ⟨hv, hb, by simp, hp, List.Sublist.refl _, fun h => h⟩⟩
      cases v
      case row id n off len =>
        simp only [fold] at h
        split at h
        · -- a row that is written no more
          rename_i sz els hl
          simp only [Option.some.injEq, Prod.mk.injEq] at h
          obtain ⟨rfl, rfl, rfl⟩ := h
          obtain ⟨hn, hle, hbd⟩ := hp
          obtain ⟨pp, lb, q, hL, hbr, hrest⟩ := hb.get hl
          cases hv with
          | @row _ _ _ _ x _ hg ho hn' hv' hh =>
            refine ⟨[], L, [], ⟨?_, hb, by simp, bdL_of fun v hv => bdL_mem hbd v (List.mem_of_mem_drop (List.mem_of_mem_take hv)), List.Sublist.refl _, fun _ => rfl⟩⟩
            have hlen : ((els.drop off).take len).length = len := by simp; omega
            cases hbr with
            | nil => obtain ⟨a', c', rfl⟩ := hv'; simp at hn hlen; subst hlen; simp; exact .lst0 _ _ _ _
            | @frz _ _ x' b1 cells ty fz hg' ho' hx' hn'' hs' hb' hst hl' hm hz' hh' =>
              obtain rfl : x = x' := by rw [hg] at hg'; injection hg'
              obtain ⟨ao, rfl, hat⟩ := hh (by rw [hn'', hn])
              by_cases hemp : len = 0
              · subst hemp; simp only [List.take_zero]; exact .lst0 _ _ _ _
              · have hao := hat (.inl (by omega))
                rw [hx'] at hao
                subst hao
                simp only [Option.map_some]
                have key : Rep E (.lst true sz ((els.drop off).take len)) (.slice (some ⟨b1, off * x.sz, none⟩) ((els.drop off).take len).length (x.cap - off)) [] := by
                  refine .lst (cap := x.cap - off) (vs := ((cells.toList.take (els.length * sz)).drop (off * sz)).take (len * sz)) (fun h' => by rw [h'] at hlen; simp at hlen; omega) (by omega) (by omega) hst (fun e he => hz' e (List.mem_of_mem_drop (List.mem_of_mem_take he))) (fun j v hj => ?_) ?_
                  · rw [hs']
                    have h1 : (cells.toList.take (els.length * sz))[off * sz + j]? = some v := by
                      rw [List.getElem?_take] at hj
                      split at hj
                      · rw [List.getElem?_drop] at hj; exact hj
                      · cases hj
                    rw [List.getElem?_take] at h1
                    split at h1
                    · unfold cellAt; rw [hb']; show cells[_]? = _; rw [← Array.getElem?_toList]; exact h1
                    · cases h1
                  · rw [flat_drop_take (l := off) (n := len) hz']
                    exact (hh'.drop _).take _
                rw [hlen] at key
                exact key
        · -- a row
          rename_i sz els hl
          simp only [Option.some.injEq, Prod.mk.injEq] at h
          obtain ⟨rfl, rfl, rfl⟩ := h
          obtain ⟨hn, rfl, hle, hbd⟩ := hp
          obtain ⟨pp, lb, q, hL, hbr, hrest⟩ := hb.get hl
          have hkeys : ((delB id b).map (·.1)).Sublist (b.map (·.1)) := by rw [keys_delB]; exact List.erase_sublist
          have hbdt : BdL 0 (els.take len) := bdL_of fun v hv => bdL_mem hbd v (List.mem_of_mem_take hv)
          cases hv with
          | @row _ _ _ _ x _ hg ho hn' hv' hh =>
            cases hbr with
            | @nil _ _ x' hg' ho' hx' hc' hn'' hz0 =>
              obtain rfl : x = x' := by rw [hg] at hg'; injection hg'
              have hn0 : n = 0 := by simpa using hn
              subst hn0
              obtain ⟨ao, rfl, hat⟩ := hh hn''
              have := hat (.inr rfl)
              rw [hx'] at this
              simp only [Option.map_none] at this
              subst this
              have hl0 : len = 0 := by omega
              subst hl0
              refine ⟨[], pp ++ q, [], ⟨by rw [hc']; exact .olst0 _, hrest, by simp [hL], by simp [Bd, BdL], hkeys, fun _ => rfl⟩⟩
            | @row _ _ x' b1 cells ty fz lb hg' ho' hx' hn'' hs' hb' hf hc hl' hm hz' hh' =>
              obtain rfl : x = x' := by rw [hg] at hg'; injection hg'
              obtain ⟨ao, rfl, hat⟩ := hh (by rw [hn'', hn])
              have hao := hat (.inr rfl)
              rw [hx'] at hao
              subst hao
              simp only [Option.map_some, Nat.zero_mul, Nat.sub_zero]
              have e1 : flat els = flat (els.take len) ++ flat (els.drop len) := by rw [← flat_append, List.take_append_drop]
              rw [e1] at hh'
              obtain ⟨v1, v2, l1, l2, hct, rfl, g1, g2⟩ := hh'.split
              have hlen : (els.take len).length = len := by simp; omega
              have hv1 : v1.length = len * sz := by rw [← g1.length, flat_len fun e he => hz' e (List.mem_of_mem_take he), hlen]
              have hct2 : cells.toList.take (len * sz) = v1 := by
                have : (cells.toList.take (els.length * sz)).take (len * sz) = v1 := by rw [hct, ← hv1, List.take_left]
                rw [List.take_take] at this
                rw [Nat.min_eq_left (Nat.mul_le_mul_right _ (by omega))] at this
                exact this
              refine ⟨b1 :: l1, pp ++ q, l2, ⟨?_, hrest, ?_, hbdt, hkeys, fun _ => rfl⟩⟩
              · have key : Rep E (.olst sz (els.take len)) (.slice (some ⟨b1, 0, none⟩) (els.take len).length x.cap) (b1 :: l1) :=
                  .olst hb' hf hc (by omega) (by omega) (fun e he => hz' e (List.mem_of_mem_take he)) (by rw [hlen, hct2]; exact g1)
                rw [hlen] at key
                exact key
              · rw [hL]
                simp only [List.cons_append, List.nil_append]
                refine List.perm_iff_count.2 fun y => ?_
                simp only [List.count_append, List.count_cons]
                omega
        · cases h
      case loc id j =>
        simp only [fold] at h
        split at h
        · rename_i e hl
          simp only [Option.map_eq_some_iff] at h
          obtain ⟨r, hr, h⟩ := h
          simp only [Prod.mk.injEq] at h
          obtain ⟨rfl, rfl, rfl⟩ := h
          obtain ⟨pp, lb, q, hL, hbr, hrest⟩ := hb.get hl
          have hkeys : ((delB id b).map (·.1)).Sublist (b.map (·.1)) := by rw [keys_delB]; exact List.erase_sublist
          cases hv with
          | @loc _ _ x b1 hg ho hb1 =>
            cases hbr with
            | @obj _ x' b2 cells ty fr lc hg' ho' hx' hb' hf h1 hh =>
              obtain rfl : x = x' := by rw [hg] at hg'; injection hg'
              obtain rfl : b1 = b2 := by rw [hb1] at hx'; injection hx'
              obtain ⟨l', L', rest, hok⟩ := ih2 _ _ _ _ _ hr hp _ _ _ hh hrest (hkeys.nodup hk)
              have hc1 := hok.c1 h1
              have hre := cells_re (e := e) hok.len hc1
              refine ⟨b1 :: l', L', rest, ⟨.optr hb' hf (by rw [hre]; exact hc1) (by rw [hre]; exact hok.rep), hok.blk, ?_, ?_, hok.keys.trans hkeys, fun _ => rfl⟩⟩
              · rw [hL]
                have := hok.perm
                refine List.perm_iff_count.2 fun y => ?_
                have h2 := List.perm_iff_count.1 this y
                simp only [List.count_append, List.count_cons, List.cons_append, List.nil_append] at h2 ⊢
                omega
              · show Bd 0 (reCells e r.1)
                have hbdl := hok.bd
                have hll := hok.len
                unfold reCells
                split
                · exact hbdl
                · cases hr1 : r.1 with
                  | nil => simp [Bd]
                  | cons c cs => rw [hr1] at hbdl; simp only [BdL] at hbdl; exact hbdl.1
        · cases h
      case mp id =>
        simp only [fold] at h
        split at h
        · rename_i ks vs hl
          obtain ⟨pp, lb, q, hL, hbr, hrest⟩ := hb.get hl
          simp only [Option.some.injEq, Prod.mk.injEq] at h
          obtain ⟨rfl, rfl, rfl⟩ := h
          have hkeys : ((delB id b).map (·.1)).Sublist (b.map (·.1)) := by rw [keys_delB]; exact List.erase_sublist
          cases hv with
          | @mp _ x b1 hg ho hb1 =>
            cases hbr with
            | @map _ _ x' b2 es clock hg' ho' hx' hb' hk' hv' =>
              obtain rfl : x = x' := by rw [hg] at hg'; injection hg'
              obtain rfl : b1 = b2 := by rw [hb1] at hx'; injection hx'
              refine ⟨[b1], pp ++ q, [], ⟨.omp hb' hk' hv', hrest, ?_, hp, hkeys, fun _ => rfl⟩⟩
              rw [hL]
              refine List.perm_iff_count.2 fun y => ?_
              simp only [List.count_append, List.count_cons, List.count_nil, List.cons_append, List.nil_append]
              omega
        · cases h
      case agg cs =>
        simp only [fold, Option.map_eq_some_iff] at h
        obtain ⟨r, hr, h⟩ := h
        simp only [Prod.mk.injEq] at h
        obtain ⟨rfl, rfl, rfl⟩ := h
        cases hv with
        | agg hv =>
          obtain ⟨l', L', rest, hok⟩ := ih2 _ _ _ _ _ hr hp _ _ _ hv hb hk
          exact ⟨l', L', rest, ⟨.agg hok.rep, hok.blk, hok.perm, hok.bd, hok.keys, fun h => by simp [C1] at h⟩⟩
      case tup cs =>
        simp only [fold, Option.map_eq_some_iff] at h
        obtain ⟨r, hr, h⟩ := h
        simp only [Prod.mk.injEq] at h
        obtain ⟨rfl, rfl, rfl⟩ := h
        cases hv with
        | tup hv =>
          obtain ⟨l', L', rest, hok⟩ := ih2 _ _ _ _ _ hr hp _ _ _ hv hb hk
          exact ⟨l', L', rest, ⟨.tup hok.rep, hok.blk, hok.perm, hok.bd, hok.keys, fun h => by simp [C1] at h⟩⟩
      case clo f cs =>
        simp only [fold, Option.map_eq_some_iff] at h
        obtain ⟨r, hr, h⟩ := h
        simp only [Prod.mk.injEq] at h
        obtain ⟨rfl, rfl, rfl⟩ := h
        cases hv with
        | clo hv =>
          obtain ⟨l', L', rest, hok⟩ := ih2 _ _ _ _ _ hr hp _ _ _ hv hb hk
          exact ⟨l', L', rest, ⟨.clo hok.rep, hok.blk, hok.perm, hok.bd, hok.keys, fun _ => rfl⟩⟩
      all_goals (simp only [fold] at h; exact dflt h)
    · intro b v v' b' p h hp cv l L hv hb hk
      cases v with
      | nil =>
        simp only [foldL, Option.some.injEq, Prod.mk.injEq] at h
        obtain ⟨rfl, rfl, rfl⟩ := h
        exact ⟨l, L, [], ⟨hv, hb, by simp, by simp [BdL], List.Sublist.refl _, fun h => h, rfl⟩⟩
      | cons v vs =>
        simp only [foldL, Option.bind_eq_some_iff, Option.map_eq_some_iff] at h
        obtain ⟨x, hx, y, hy, h⟩ := h
        simp only [Prod.mk.injEq] at h
        obtain ⟨rfl, rfl, rfl⟩ := h
        obtain ⟨cv1, cvs, l1, l2, rfl, rfl, h1, h2⟩ := hv.inv
        obtain ⟨l1', L1, rest1, hok1⟩ := ih1 _ _ _ _ _ hx hp.1 _ _ _ h1 hb hk
        obtain ⟨l2', L2, rest2, hok2⟩ := ih2 _ _ _ _ _ hy hp.2 _ _ _ h2 hok1.blk (hok1.keys.nodup hk)
        refine ⟨l1' ++ l2', L2, rest2 ++ rest1, ⟨.cons hok1.rep hok2.rep, hok2.blk, ?_, ?_, hok2.keys.trans hok1.keys, ?_, ?_⟩⟩
        · refine List.perm_iff_count.2 fun z => ?_
          have e1 := List.perm_iff_count.1 hok1.perm z
          have e2 := List.perm_iff_count.1 hok2.perm z
          simp only [List.count_append] at e1 e2 ⊢
          omega
        · simp only [BdL]; exact ⟨hok1.bd, hok2.bd⟩
        · intro h
          simp only [allC1, Bool.and_eq_true] at h ⊢
          exact ⟨hok1.c1 h.1, hok2.c1 h.2⟩
        · simp [hok2.len]
end Go.Ev

/-
Calls: arguments handed over, results taken in.
-/
set_option linter.unusedVariables false
set_option linter.unusedSimpArgs false
namespace Go.Ev
variable {Sp : FuncId → List AV → AV → List AV → Prop} {P : Program} {E : Env} {s : S} {a : Act} {w : World} {L : List Nat} {K : S → AV → Prop}

/-- A part of a row as a list that stands for a time. -/
theorem window_lst (hR : R E s a w L) {b : Mem} {M : List Nat} (hb : Blks E b M) {id sz off len : Nat} {els : List AV} {fr : Bool} (hl : look id b = some (.row sz els fr)) {x : Loc} (hg : E.g id = some x) {ao : Option Addr} {c : Nat}
    (hle : off + len ≤ els.length) (hc : len ≤ c) (hat : 0 < len → ao = x.blk.map fun b => ⟨b, off * x.sz, none⟩) (hno : NoOL ((els.drop off).take len)) {E' : Env} (hx : Ext E E' []) (hst : ∀ b, x.blk = some b → E'.st false b) (hh : E'.h = E.h) :
    Rep E' (.lst false sz (lowL ((els.drop off).take len))) (.slice ao len c) [] := by
  have hlen : ((els.drop off).take len).length = len := by simp; omega
  by_cases hemp : len = 0
  · subst hemp; simp only [List.take_zero, lowL]; exact .lst0 _ _ _ _
  · have main : ∀ {b0 : Nat} {cells : Array Value} {ty : TypeId} {fz : Nat × Nat} {l : List Nat}, x.blk = some b0 → E.h[b0]? = some (.cells cells ty fz) → x.sz = sz → (∀ e ∈ els, okE sz e) → els.length ≤ MX → RepL E (flat els) (cells.toList.take (els.length * sz)) l →
        Rep E' (.lst false sz (lowL ((els.drop off).take len))) (.slice ao len c) [] := by
      intro b0 cells ty fz l hxb hbw hsz hz hm hrep
      have hao := hat (by omega)
      rw [hxb] at hao
      subst hao
      simp only [Option.map_some]
      have hf := flat_drop_take (l := off) (n := len) hz
      have e1 : flat els = (flat els).take (off * sz) ++ (((flat els).drop (off * sz)).take (len * sz) ++ (flat els).drop (off * sz + len * sz)) := by
        rw [← List.drop_drop, List.take_append_drop, List.take_append_drop]
      have hflen := flat_len hz
      rw [e1] at hrep
      obtain ⟨v1, v23, l1, l23, hct, rfl, g1, g23⟩ := hrep.split
      obtain ⟨v2, v3, l2, l3, rfl, rfl, g2, g3⟩ := g23.split
      obtain rfl := noOL g2 (by rw [← hf]; exact noOL_flat hno)
      have hmul : off * sz + len * sz ≤ els.length * sz := by rw [← Nat.add_mul]; exact Nat.mul_le_mul_right _ hle
      have hv1 : v1.length = off * sz := by rw [← g1.length, List.length_take, hflen]; omega
      have hll := lowL_length ((els.drop off).take len)
      have key : Rep E' (.lst false sz (lowL ((els.drop off).take len))) (.slice (some ⟨b0, off * x.sz, none⟩) (lowL ((els.drop off).take len)).length c) [] := by
        refine .lst (cap := c) (vs := v2) (fun h' => by rw [h'] at hll; simp at hll; omega) (by omega) (by omega) (hst b0 hxb) ?_ ?_ ?_
        · intro e he
          obtain ⟨y, hy, rfl⟩ := lowL_mem he
          unfold okE
          rw [cellsOf_low, lowL_length, allC1_lowL]
          exact hz y (List.mem_of_mem_drop (List.mem_of_mem_take hy))
        · rw [hh, hsz]
          exact at_take hbw hct hv1
        · rw [flat_lowL, hf]
          have hsub' : ∀ c, E'.st true c → E'.st false c ∨ True := fun _ _ => .inr trivial
          exact (RepL.low hR.own.sub g2).ext hx
      rw [hll, hlen] at key
      exact key
    obtain ⟨p, l, q, hL, hbr, _⟩ := hb.get hl
    cases hbr with
    | nil => simp at hle; omega
    | @row _ _ x' b0 cells ty fz l hg' ho hx' hn hs hb' hf hc' hl' hm hz h =>
      obtain rfl : x = x' := by rw [hg] at hg'; injection hg'
      exact main hx' hb' hs hz hm h
    | @frz _ _ x' b0 cells ty fz hg' ho hx' hn hs hb' hst' hl' hm hz h =>
      obtain rfl : x = x' := by rw [hg] at hg'; injection hg'
      exact main hx' hb' hs hz hm h

def lentE (E : Env) (lent M : List Nat) : Env := { E with st := fun fl b => E.st fl b ∨ fl = false ∧ lent ≠ [] ∧ b ∈ M }
theorem lentE_ext (hs : ∀ b, E.st true b → E.st false b) (lent M : List Nat) (l : List Nat) : Ext E (lentE E lent M) l :=
  ⟨fun _ _ => rfl, fun _ _ h => .inl h, hs, fun id x h => ⟨x, h, .inl rfl⟩⟩
theorem lentE_mono (hs : ∀ b, E.st true b → E.st false b) {l1 l2 M : List Nat} (h : l1 ≠ [] → l2 ≠ []) (l : List Nat) : Ext (lentE E l1 M) (lentE E l2 M) l :=
  ⟨fun _ _ => rfl, fun fl b hb => hb.imp (fun h => h) fun ⟨h1, h2, h3⟩ => ⟨h1, h h2, h3⟩, fun b hb => (by
    rcases hb with hb | ⟨hb, _⟩
    · exact .inl (hs b hb)
    · cases hb), fun id x h => ⟨x, h, .inl rfl⟩⟩
theorem ne_left {l1 l2 : List Nat} (h : l1 ≠ []) : l1 ++ l2 ≠ [] := by cases l1 <;> simp_all
theorem ne_right {l1 l2 : List Nat} (h : l2 ≠ []) : l1 ++ l2 ≠ [] := by cases l2 <;> simp_all

theorem bd_low : ∀ (v : AV), Bd 0 v → Bd 0 (low v) := by
  intro v
  refine AV.rec (motive_1 := fun v => Bd 0 v → Bd 0 (low v)) (motive_2 := fun vs => BdL 0 vs → BdL 0 (lowL vs)) ?_ ?_ ?_ ?_ ?_ ?_ ?_ ?_ ?_ ?_ ?_ ?_ ?_ ?_ ?_ ?_ ?_ ?_ ?_ ?_ ?_ ?_ ?_ v <;> intros <;> simp_all [low, lowL, Bd, BdL]
theorem bdL_low {els : List AV} (h : BdL 0 els) : BdL 0 (lowL els) := by
  refine bdL_of fun v hv => ?_
  obtain ⟨e, he, rfl⟩ := lowL_mem hv
  exact bd_low e (bdL_mem h e he)

theorem blk_in {M : List Nat} {b : Mem} (hb : Blks E b M) (hs : ∀ b, E.st true b → E.st false b) {id sz : Nat} {els : List AV} {fr : Bool} (hl : look id b = some (.row sz els fr)) {x : Loc} (hg : E.g id = some x) {lent : List Nat} (hne : lent ≠ []) :
    (∀ c, x.blk = some c → (lentE E lent M).st false c) ∧ x.n = els.length ∧ els.length ≤ x.cap := by
  obtain ⟨p, l, q, hL, hbr, _⟩ := hb.get hl
  cases hbr with
  | nil hg' ho hx hc hn hz =>
    rw [hg] at hg'; injection hg' with hg'; subst hg'
    exact ⟨(fun c h => by rw [hx] at h; cases h), by simpa using hn, by simp⟩
  | row hg' ho hx hn hs' hb' hf hc hl' =>
    rw [hg] at hg'; injection hg' with hg'; subst hg'
    refine ⟨fun c h => ?_, hn, hl'⟩
    rw [hx] at h; injection h with h; subst h
    exact .inr ⟨rfl, hne, by rw [hL]; simp⟩
  | frz hg' ho hx hn hs' hb' hst hl' =>
    rw [hg] at hg'; injection hg' with hg'; subst hg'
    refine ⟨fun c h => ?_, hn, hl'⟩
    rw [hx] at h; injection h with h; subst h
    exact .inl (hs _ hst)

theorem at_drop {h : Array Obj} {b : Nat} {cells : Array Value} {ty : TypeId} {fr : Nat × Nat} (hb : h[b]? = some (.cells cells ty fr)) {v1 v2 : List Value} {j : Nat} (hc : cells.toList = v1 ++ v2) (hj : v2 ≠ [] → v1.length = j) : At h b j v2 := by
  intro k v hk
  have hne : v2 ≠ [] := by rintro rfl; simp at hk
  unfold cellAt
  rw [hb]
  show cells[j + k]? = some v
  rw [← Array.getElem?_toList, hc, ← hj hne, List.getElem?_append_right (by omega), Nat.add_sub_cancel_left]
  exact hk

theorem rep_fz (hs : ∀ b, E.st true b → E.st false b) {M : List Nat} {e : AV} {j b1 : Nat} {cells : Array Value} {ty : TypeId} {fr : Nat × Nat} {lc : List Nat} (hb : E.h[b1]? = some (.cells cells ty fr)) (hm : b1 ∈ M) (hrep : RepL E (cellsOf e) cells.toList lc)
    (hlc : ∀ c ∈ lc, c ∈ M) {ids : List Nat} {i : Nat} {cs' : List AV} (hok : ∀ cv l, RepL E ((cellsOf e).drop j) cv l → (∀ c ∈ l, c ∈ M) → RepL (lentE E ids M) cs' cv [] ∧ BdL 0 cs') :
    Rep (lentE E (i :: ids) M) (.fz cs') (.pointer (some ⟨b1, j, none⟩)) [] ∧ Bd 0 (.fz cs') := by
  have e1 : cellsOf e = (cellsOf e).take j ++ (cellsOf e).drop j := (List.take_append_drop j _).symm
  rw [e1] at hrep
  obtain ⟨v1, v2, l1, l2, hc, rfl, g1, g2⟩ := hrep.split
  obtain ⟨h1, h2⟩ := hok v2 l2 g2 fun c hc => hlc c (by simp [hc])
  refine ⟨.fz (vs := v2) (.inr ⟨rfl, by simp, hm⟩) (at_drop hb hc fun hne => ?_) (h1.ext (lentE_mono hs (fun _ => by simp) _)), by simpa [Bd] using h2⟩
  have hl1 := g1.length
  have hl2 := g2.length
  rw [List.length_take] at hl1
  rw [List.length_drop] at hl2
  have : 0 < v2.length := List.length_pos_iff.2 hne
  omega

theorem lend_ok_both (hR : R E s a w L) {b : Mem} {M : List Nat} (hb : Blks E b M) : ∀ k,
    (∀ v v' ids p, lend k b v = some (v', ids, p) → p → ∀ cv l, Rep E v cv l → (∀ c ∈ l, c ∈ M) → Rep (lentE E ids M) v' cv [] ∧ Bd 0 v') ∧
    (∀ v v' ids p, lendL k b v = some (v', ids, p) → p → ∀ cv l, RepL E v cv l → (∀ c ∈ l, c ∈ M) → RepL (lentE E ids M) v' cv [] ∧ BdL 0 v')
  | 0 => ⟨fun v v' ids p h => by simp [lend] at h, fun v v' ids p h => by simp [lendL] at h⟩
  | k + 1 => by
    obtain ⟨ih1, ih2⟩ := lend_ok_both hR hb k
    have hs := hR.own.sub
    constructor
    · intro v v' ids p h hp cv l hv hl
      have dflt : some (v, ([] : List Nat), Bd 0 v ∧ NoO v) = some (v', ids, p) → Rep (lentE E ids M) v' cv [] ∧ Bd 0 v' := by
        intro h
        simp only [Option.some.injEq, Prod.mk.injEq] at h
        obtain ⟨rfl, rfl, rfl⟩ := h
        have := noO_both hv hp.2
        subst this
        exact ⟨hv.ext (lentE_ext hs _ _ _), hp.1⟩
      cases v <;> simp only [lend] at h
      case row id n off len =>
        obtain ⟨r, hr, h⟩ := Option.map_eq_some_iff.1 h
        simp only [Prod.mk.injEq] at h
        obtain ⟨rfl, rfl, rfl⟩ := h
        obtain ⟨hn, hle, hbd, hno⟩ := hp
        have hlk := rowAt_look hr
        cases hv with
        | @row _ _ _ _ x _ hg ho hn' hv' hh =>
          obtain ⟨h1, h2, h3⟩ := blk_in hb hs hlk hg (lent := [id]) (by simp)
          obtain ⟨ao, rfl, hat⟩ := hh (by omega)
          exact ⟨window_lst hR hb hlk hg (by omega) (by omega) (fun _ => hat (.inl (by omega))) hno (lentE_ext hs _ _ _) h1 rfl, bdL_low (bdL_of fun v hv => bdL_mem hbd v (List.mem_of_mem_drop (List.mem_of_mem_take hv)))⟩
      case rowc id n off len =>
        obtain ⟨r, hr, h⟩ := Option.map_eq_some_iff.1 h
        simp only [Prod.mk.injEq] at h
        obtain ⟨rfl, rfl, rfl⟩ := h
        obtain ⟨hn, hle, hbd, hno⟩ := hp
        have hlk := rowAt_look hr
        cases hv with
        | @rowc _ _ _ _ x _ hg ho hn' hv' hh =>
          obtain ⟨h1, h2, h3⟩ := blk_in hb hs hlk hg (lent := [id]) (by simp)
          obtain ⟨ao, rfl, hat⟩ := hh (by omega)
          exact ⟨window_lst hR hb hlk hg (by omega) (Nat.le_refl _) hat hno (lentE_ext hs _ _ _) h1 rfl, bdL_low (bdL_of fun v hv => bdL_mem hbd v (List.mem_of_mem_drop (List.mem_of_mem_take hv)))⟩
      case loc id j =>
        obtain ⟨e, he, h⟩ := Option.bind_eq_some_iff.1 h
        obtain ⟨r, hr, h⟩ := Option.map_eq_some_iff.1 h
        simp only [Prod.mk.injEq] at h
        obtain ⟨rfl, rfl, rfl⟩ := h
        obtain ⟨blk, hlk, hobj⟩ := Option.bind_eq_some_iff.1 he
        cases blk <;> simp [getObj] at hobj
        subst hobj
        obtain ⟨pp, lb, q, hL, hbr, hrest⟩ := hb.get hlk
        cases hv with
        | @loc _ _ x b1 hg ho hb1 =>
          cases hbr with
          | @obj _ x' b2 cells ty fr lc hg' ho' hx' hb' hf h1 hh =>
            obtain rfl : x = x' := by rw [hg] at hg'; injection hg'
            obtain rfl : b1 = b2 := by rw [hb1] at hx'; injection hx'
            exact rep_fz hs hb' (by rw [hL]; simp) hh (fun c hc => by rw [hL]; simp [hc]) fun cv l h1 h2 => ih2 _ _ _ _ hr hp cv l h1 h2
      case optr e j =>
        obtain ⟨r, hr, h⟩ := Option.map_eq_some_iff.1 h
        simp only [Prod.mk.injEq] at h
        obtain ⟨rfl, rfl, rfl⟩ := h
        cases hv with
        | @optr _ _ b1 cells ty fr lc hb' hf h1 hh =>
          exact rep_fz hs hb' (hl _ (by simp)) hh (fun c hc => hl c (by simp [hc])) fun cv l h1 h2 => ih2 _ _ _ _ hr hp cv l h1 h2
      case olst sz els =>
        simp only [Option.some.injEq, Prod.mk.injEq] at h
        obtain ⟨rfl, rfl, rfl⟩ := h
        obtain ⟨hbd, hno⟩ := hp
        refine ⟨?_, by simpa [Bd] using bdL_low hbd⟩
        cases hv with
        | olst0 => exact .lst0 _ _ _ _
        | @olst _ _ b1 cap cells ty fr lc hb' hf hc hlen hm hz hh =>
          have hlc := noOL hh (noOL_flat hno)
          subst hlc
          have hll := lowL_length els
          by_cases hemp : els = []
          · subst hemp; exact .lst0 _ _ _ _
          · have key : Rep (lentE E (els.map fun _ => 0) M) (.lst false sz (lowL els)) (.slice (some ⟨b1, 0, none⟩) (lowL els).length cap) [] := by
              refine .lst (cap := cap) (vs := cells.toList.take (els.length * sz)) (fun h' => hemp (List.eq_nil_of_length_eq_zero (by rw [← hll, h']; rfl))) (by omega) (by omega) (.inr ⟨rfl, by simpa using hemp, hl _ (by simp)⟩) ?_ (fun j v hj => ?_) ?_
              · intro e he
                obtain ⟨y, hy, rfl⟩ := lowL_mem he
                unfold okE
                rw [cellsOf_low, lowL_length, allC1_lowL]
                exact hz y hy
              · show cellAt E.h b1 (0 + j) = some v
                unfold cellAt
                rw [hb', Nat.zero_add]
                rw [List.getElem?_take] at hj
                split at hj
                · show cells[j]? = some v; rw [← Array.getElem?_toList]; exact hj
                · cases hj
              · rw [flat_lowL]
                exact (RepL.low hs hh).ext (lentE_ext hs _ _ _)
            rw [hll] at key
            exact key
      case agg cs =>
        obtain ⟨r, hr, h⟩ := Option.map_eq_some_iff.1 h
        simp only [Prod.mk.injEq] at h
        obtain ⟨rfl, rfl, rfl⟩ := h
        cases hv with
        | agg hv => obtain ⟨h1, h2⟩ := ih2 _ _ _ _ hr hp _ _ hv hl; exact ⟨.agg h1, by simpa [Bd] using h2⟩
      case clo f cs =>
        obtain ⟨r, hr, h⟩ := Option.map_eq_some_iff.1 h
        simp only [Prod.mk.injEq] at h
        obtain ⟨rfl, rfl, rfl⟩ := h
        cases hv with
        | clo hv => obtain ⟨h1, h2⟩ := ih2 _ _ _ _ hr hp _ _ hv hl; exact ⟨.clo h1, by simpa [Bd] using h2⟩
      all_goals exact dflt h
    · intro v v' ids p h hp cv l hv hl
      cases v with
      | nil =>
        simp only [lendL, Option.some.injEq, Prod.mk.injEq] at h
        obtain ⟨rfl, rfl, rfl⟩ := h
        cases hv
        exact ⟨.nil, by simp [BdL]⟩
      | cons v vs =>
        simp only [lendL, Option.bind_eq_some_iff, Option.map_eq_some_iff] at h
        obtain ⟨x, hx, y, hy, h⟩ := h
        simp only [Prod.mk.injEq] at h
        obtain ⟨rfl, rfl, rfl⟩ := h
        obtain ⟨cv1, cvs, l1, l2, rfl, rfl, h1, h2⟩ := hv.inv
        obtain ⟨g1, g2⟩ := ih1 _ _ _ _ hx hp.1 _ _ h1 fun c hc => hl c (by simp [hc])
        obtain ⟨g3, g4⟩ := ih2 _ _ _ _ hy hp.2 _ _ h2 fun c hc => hl c (by simp [hc])
        exact ⟨.cons (l := []) (m := []) (g1.ext (lentE_mono hs ne_left _)) (g3.ext (lentE_mono hs ne_right _)), by simp only [BdL]; exact ⟨g2, g4⟩⟩

/-- The arguments behind giveL: those that are given are closed by themselves. -/
inductive Mix (E : Env) : List Bool → List AV → List Value → List Nat → Prop where
  | nil (gm : List Bool) : Mix E gm [] [] []
  | give {g : List Bool} {v : AV} {cv : Value} {l m : List Nat} {vs : List AV} {cvs : List Value} (h : Rep E v cv l) (hb : Bd 0 v) (t : Mix E g vs cvs m) : Mix E (true :: g) (v :: vs) (cv :: cvs) (l ++ m)
  | keep {g : List Bool} {v : AV} {cv : Value} {m : List Nat} {vs : List AV} {cvs : List Value} (h : Rep E v cv []) (t : Mix E g vs cvs m) : Mix E (false :: g) (v :: vs) (cv :: cvs) m
  | rest {v : AV} {cv : Value} {m : List Nat} {vs : List AV} {cvs : List Value} (h : Rep E v cv []) (t : Mix E [] vs cvs m) : Mix E [] (v :: vs) (cv :: cvs) m

structure GiveOk (E : Env) (gm : List Bool) (vs' : List AV) (cvs : List Value) (b b' : Mem) (L lp Lr rest : List Nat) : Prop where
  rep : Mix E gm vs' cvs lp
  blk : Blks E b' Lr
  perm : (lp ++ (Lr ++ rest)).Perm L
  keys : (b'.map (·.1)).Sublist (b.map (·.1))

theorem giveL_ok : ∀ {gm : List Bool} {vs vs' : List AV} {b b' : Mem} {M : List Nat} {p : Prop} {cvs : List Value}, RepL E vs cvs [] → Blks E b M → (b.map (·.1)).Nodup → giveL gm b vs = some (vs', b', p) → p →
    ∃ lp Lr rest, GiveOk E gm vs' cvs b b' M lp Lr rest
  | gm, [], vs', b, b', M, p, cvs, hv, hb, hk, h, hp => by
    cases hv
    have h : some (([] : List AV), b, True) = some (vs', b', p) := by
      cases gm with
      | nil => simpa [giveL] using h
      | cons g gm => cases g <;> simpa [giveL] using h
    simp only [Option.some.injEq, Prod.mk.injEq] at h
    obtain ⟨rfl, rfl, rfl⟩ := h
    exact ⟨[], M, [], ⟨.nil _, hb, by simp, List.Sublist.refl _⟩⟩
  | [], v :: vs, vs', b, b', M, p, cvs, hv, hb, hk, h, hp => by
    obtain ⟨cv1, cvs', l1, l2, rfl, hl, h1, h2⟩ := hv.inv
    obtain ⟨rfl, rfl⟩ : l1 = [] ∧ l2 = [] := by simpa using hl.symm
    simp only [giveL, Option.map_eq_some_iff] at h
    obtain ⟨y, hy, h⟩ := h
    simp only [Prod.mk.injEq] at h
    obtain ⟨rfl, rfl, rfl⟩ := h
    obtain ⟨lp, Lr, rest, hok⟩ := giveL_ok (vs' := y.1) (b' := y.2.1) (p := y.2.2) h2 hb hk hy hp
    exact ⟨lp, Lr, rest, ⟨.rest h1 hok.rep, hok.blk, hok.perm, hok.keys⟩⟩
  | false :: gm, v :: vs, vs', b, b', M, p, cvs, hv, hb, hk, h, hp => by
    obtain ⟨cv1, cvs', l1, l2, rfl, hl, h1, h2⟩ := hv.inv
    obtain ⟨rfl, rfl⟩ : l1 = [] ∧ l2 = [] := by simpa using hl.symm
    simp only [giveL, Option.map_eq_some_iff] at h
    obtain ⟨y, hy, h⟩ := h
    simp only [Prod.mk.injEq] at h
    obtain ⟨rfl, rfl, rfl⟩ := h
    obtain ⟨lp, Lr, rest, hok⟩ := giveL_ok (vs' := y.1) (b' := y.2.1) (p := y.2.2) h2 hb hk hy hp
    exact ⟨lp, Lr, rest, ⟨.keep h1 hok.rep, hok.blk, hok.perm, hok.keys⟩⟩
  | true :: gm, v :: vs, vs', b, b', M, p, cvs, hv, hb, hk, h, hp => by
    obtain ⟨cv1, cvs', l1, l2, rfl, hl, h1, h2⟩ := hv.inv
    obtain ⟨rfl, rfl⟩ : l1 = [] ∧ l2 = [] := by simpa using hl.symm
    simp only [giveL, Option.bind_eq_some_iff, Option.map_eq_some_iff] at h
    obtain ⟨x, hx, y, hy, h⟩ := h
    simp only [Prod.mk.injEq] at h
    obtain ⟨rfl, rfl, rfl⟩ := h
    obtain ⟨lp1, Lr1, rest1, hok1⟩ := (fold_ok_both (E := E) 30).1 b v x.1 x.2.1 x.2.2 hx hp.1 cv1 [] M h1 hb hk
    obtain ⟨lp2, Lr2, rest2, hok⟩ := giveL_ok (vs' := y.1) (b' := y.2.1) (p := y.2.2) h2 hok1.blk (hok1.keys.nodup hk) hy hp.2
    refine ⟨lp1 ++ lp2, Lr2, rest2 ++ rest1, ⟨.give hok1.rep hok1.bd hok.rep, hok.blk, ?_, hok.keys.trans hok1.keys⟩⟩
    refine List.perm_iff_count.2 fun z => ?_
    have e1 := List.perm_iff_count.1 hok1.perm z
    have e2 := List.perm_iff_count.1 hok.perm z
    simp only [List.count_append, List.count_nil] at e1 e2 ⊢
    omega

theorem lendA_ok (hR : R E s a w L) {b : Mem} {M : List Nat} (hb : Blks E b M) {gm : List Bool} {vs : List AV} {cvs : List Value} {l : List Nat} (hv : Mix E gm vs cvs l) :
    ∀ {vs' : List AV} {ids : List Nat} {p : Prop}, lendA gm b vs = some (vs', ids, p) → p → RepL (lentE E ids M) vs' cvs l ∧ BdL 0 vs' := by
  have hs := hR.own.sub
  induction hv with
  | nil gm =>
    intro vs' ids p h hp
    have h : some (([] : List AV), ([] : List Nat), True) = some (vs', ids, p) := by
      cases gm with
      | nil => simpa [lendA] using h
      | cons g gm => cases g <;> simpa [lendA] using h
    simp only [Option.some.injEq, Prod.mk.injEq] at h
    obtain ⟨rfl, rfl, rfl⟩ := h
    exact ⟨.nil, by simp [BdL]⟩
  | give h1 hbd t ih =>
    intro vs' ids p h hp
    simp only [lendA, Option.map_eq_some_iff] at h
    obtain ⟨y, hy, h⟩ := h
    simp only [Prod.mk.injEq] at h
    obtain ⟨rfl, rfl, rfl⟩ := h
    obtain ⟨g1, g2⟩ := ih (vs' := y.1) (ids := y.2.1) (p := y.2.2) hy hp
    exact ⟨.cons (h1.ext (lentE_ext hs _ _ _)) g1, by simp only [BdL]; exact ⟨hbd, g2⟩⟩
  | keep h1 t ih =>
    intro vs' ids p h hp
    simp only [lendA, Option.bind_eq_some_iff, Option.map_eq_some_iff] at h
    obtain ⟨x, hx, y, hy, h⟩ := h
    simp only [Prod.mk.injEq] at h
    obtain ⟨rfl, rfl, rfl⟩ := h
    obtain ⟨g1, g2⟩ := ih (vs' := y.1) (ids := y.2.1) (p := y.2.2) hy hp.2
    obtain ⟨g3, g4⟩ := (lend_ok_both hR hb 30).1 _ x.1 x.2.1 x.2.2 hx hp.1 _ [] h1 (fun c hc => by cases hc)
    exact ⟨.cons (l := []) (g3.ext (lentE_mono hs ne_left _)) (g1.ext (lentE_mono hs ne_right _)), by simp only [BdL]; exact ⟨g4, g2⟩⟩
  | rest h1 t ih =>
    intro vs' ids p h hp
    simp only [lendA, Option.bind_eq_some_iff, Option.map_eq_some_iff] at h
    obtain ⟨x, hx, y, hy, h⟩ := h
    simp only [Prod.mk.injEq] at h
    obtain ⟨rfl, rfl, rfl⟩ := h
    obtain ⟨g1, g2⟩ := ih (vs' := y.1) (ids := y.2.1) (p := y.2.2) hy hp.2
    obtain ⟨g3, g4⟩ := (lend_ok_both hR hb 30).1 _ x.1 x.2.1 x.2.2 hx hp.1 _ [] h1 (fun c hc => by cases hc)
    exact ⟨.cons (l := []) (g3.ext (lentE_mono hs ne_left _)) (g1.ext (lentE_mono hs ne_right _)), by simp only [BdL]; exact ⟨g4, g2⟩⟩
end Go.Ev

/-
A function's specification, and calls under it.
-/
set_option linter.unusedVariables false
set_option linter.unusedSimpArgs false
namespace Go.Ev
variable {P : Program} {E : Env} {s : S} {a : Act} {w : World} {L : List Nat} {K : S → AV → Prop}

def bare (h : Array Obj) (st : Bool → Nat → Prop) : Env := { h := h, st := st, g := fun _ => none }

structure Grow (w : World) (st : Bool → Nat → Prop) (L : List Nat) (w' : World) (st' : Bool → Nat → Prop) (L' : List Nat) : Prop where
  size : w.heap.size ≤ w'.heap.size
  keep : ∀ b, b < w.heap.size → b ∉ L → w'.heap[b]? = w.heap[b]?
  stM : ∀ fl b, st fl b → st' fl b
  stF : ∀ b, st' false b → st false b ∨ st' true b
  stN : ∀ fl b, st' fl b → st fl b ∨ b ∈ L ∨ w.heap.size ≤ b
  new : ∀ b ∈ L', b ∈ L ∨ w.heap.size ≤ b
  os : w'.os = w.os
  tape : w'.tape = w.tape
  output : w'.output = w.output

def Post (w : World) (st : Bool → Nat → Prop) (vs : Array Value) (L : List Nat) (res : AV) (outs : List AV) (e : Ending) (w' : World) : Prop :=
  ∃ v st' L', e = .returned v ∧ RepL (bare w'.heap st') (res :: outs) (v :: vs.toList) L' ∧ Own (bare w'.heap st') L' ∧ Grow w st L w' st' L'

def Enter (P : Program) (f : FuncId) : Prop := ∃ fn, P.funcs[f]? = some fn ∧ (fn.name == "runtime.NumGoroutine") = false ∧ fn.body.isNone = false

/-- Called with values that these arguments stand for, the function returns the result; what its arguments hold behind the call stands in outs. -/
def Spec (P : Program) (f : FuncId) (targs : List AV) (res : AV) (outs : List AV) : Prop := Enter P f ∧
  ∀ (w : World) (st : Bool → Nat → Prop) (vs : Array Value) (L : List Nat), RepL (bare w.heap st) targs vs.toList L → Own (bare w.heap st) L → Calls P f vs w (Post w st vs L res outs)

theorem RepL.base {h : Array Obj} {st : Bool → Nat → Prop} {g : Nat → Option Loc} {as : List AV} {vs : List Value} {l : List Nat} (hr : RepL { h := h, st := st, g := g } as vs l) (hb : BdL 0 as) : RepL (bare h st) as vs l :=
  RepL.rebase (E := { h := h, st := st, g := g }) (E' := bare h st) rfl rfl (fun _ h => absurd h (Nat.not_lt_zero _)) hr hb
theorem ext_bare {h : Array Obj} {st : Bool → Nat → Prop} {E : Env} {l : List Nat} (hh : ∀ b, st false b ∨ b ∈ l → E.h[b]? = h[b]?) (hst : ∀ fl b, st fl b → E.st fl b) (hs : ∀ b, st true b → st false b) : Ext (bare h st) E l :=
  ⟨hh, hst, hs, fun id x hx => by cases hx⟩

/-- What comes back goes to its places. -/
structure BackOk (E : Env) (b b' : Mem) (l L L' : List Nat) (ids : List Nat) : Prop where
  blk : Blks E b' L'
  sub : ∀ c ∈ L', c ∈ l ++ L
  nodup : (l ++ L).Nodup → L'.Nodup
  keys : (b.map (·.1)).Nodup → (b'.map (·.1)).Nodup
  kk : ∀ k ∈ b'.map (·.1), k ∈ b.map (·.1) ∨ k ∈ ids

def idOf : AV → List Nat
  | .loc id _ => [id]
  | _ => []
def idsOf : AV → List Nat
  | .clo _ cs => cs.flatMap idOf
  | v => idOf v

theorem back1_ok {E0 : Env} {b : Mem} {v o : AV} {cv : Value} {l L : List Nat} (hv : Rep E0 v cv []) (hg : ∀ id x, E0.g id = some x → E.g id = some x) (ho : Rep E o cv l) (hb : Blks E b L) (hid : ∀ id ∈ idOf v, id ∉ b.map (·.1)) :
    ∃ L', BackOk E b (back1 b v o) l L L' (idOf v) := by
  have same : ∃ L', BackOk E b b l L L' (idOf v) := ⟨L, hb, fun c hc => List.mem_append_right _ hc, fun h => (List.nodup_append.1 h).2.1, fun h => h, fun k hk => .inl hk⟩
  unfold back1
  split
  · rename_i id j e j'
    split
    · rename_i hj
      subst hj
      cases hv with
      | @loc _ _ x b0 hg0 hob hx =>
        cases ho with
        | @optr _ _ b1 cells ty fr l h1 h2 h3 h4 =>
          have hblk : BlkRep E id (.obj e) (b0 :: l) := .obj (x := x) (hg _ _ hg0) hob hx h1 h2 h3 h4
          refine ⟨(b0 :: l) ++ L, .cons hblk hb, fun c hc => hc, fun h => h, fun h => ?_, fun k hk => ?_⟩
          · simp only [List.map_cons, List.nodup_cons]; exact ⟨hid id (by simp [idOf]), h⟩
          · simp only [List.map_cons, List.mem_cons] at hk
            rcases hk with rfl | hk
            · exact .inr (by simp [idOf])
            · exact .inl hk
    · exact same
  · exact same

theorem BackOk.step {b b1 b2 : Mem} {l m L L1 L2 i1 i2 : List Nat} (h1 : BackOk E b b1 l L L1 i1) (h2 : BackOk E b1 b2 m L1 L2 i2) : BackOk E b b2 (l ++ m) L L2 (i1 ++ i2) where
  blk := h2.blk
  sub c hc := by
    rcases List.mem_append.1 (h2.sub c hc) with h | h
    · simp [h]
    · rcases List.mem_append.1 (h1.sub c h) with h | h <;> simp [h]
  nodup h := by
    have hp : (l ++ m ++ L).Perm (m ++ (l ++ L)) := by
      refine List.perm_iff_count.2 fun z => ?_
      simp only [List.count_append]; omega
    have h' := hp.nodup_iff.1 h
    have hl : (l ++ L).Nodup := (List.nodup_append.1 h').2.1
    refine h2.nodup ?_
    rw [List.nodup_append]
    refine ⟨(List.nodup_append.1 h').1, h1.nodup hl, fun c hc d hd e => ?_⟩
    subst e
    exact (List.nodup_append.1 h').2.2 c hc c (h1.sub c hd) rfl
  keys h := h2.keys (h1.keys h)
  kk k hk := by
    rcases h2.kk k hk with h | h
    · rcases h1.kk k h with h | h
      · exact .inl h
      · exact .inr (by simp [h])
    · exact .inr (by simp [h])

theorem backC_ok {E0 : Env} (hg : ∀ id x, E0.g id = some x → E.g id = some x) : ∀ {vs os : List AV} {cvs : List Value} {b : Mem} {l L : List Nat}, RepL E0 vs cvs [] → RepL E os cvs l → Blks E b L → (∀ id ∈ vs.flatMap idOf, id ∉ b.map (·.1)) → (vs.flatMap idOf).Nodup →
    ∃ L', BackOk E b (backC b vs os) l L L' (vs.flatMap idOf)
  | [], os, cvs, b, l, L, hv, ho, hb, _, _ => by
    refine ⟨L, ?_⟩
    have : backC b [] os = b := by cases os <;> rfl
    rw [this]
    exact ⟨hb, fun c hc => List.mem_append_right _ hc, fun h => (List.nodup_append.1 h).2.1, fun h => h, fun k hk => .inl hk⟩
  | v :: vs, os, cvs, b, l, L, hv, ho, hb, hid, hnd => by
    obtain ⟨cv, cvs', l1, l2, rfl, hl, h1, h2⟩ := hv.inv
    obtain ⟨rfl, rfl⟩ : l1 = [] ∧ l2 = [] := by simpa using hl.symm
    cases os with
    | nil => cases ho
    | cons o os =>
      obtain ⟨cv', cvs'', m1, m2, e, rfl, g1, g2⟩ := ho.inv
      injection e with e1 e2
      subst e1 e2
      simp only [List.flatMap_cons] at hid hnd ⊢
      obtain ⟨L1, hb1⟩ := back1_ok h1 hg g1 hb fun id h => hid id (by simp [h])
      obtain ⟨L2, hb2⟩ := backC_ok hg h2 g2 hb1.blk (fun id h hm => by
        rcases hb1.kk id hm with hm | hm
        · exact hid id (by simp [h]) hm
        · exact (List.nodup_append.1 hnd).2.2 id hm id h rfl) (List.nodup_append.1 hnd).2.1
      exact ⟨L2, by simpa [backC] using hb1.step hb2⟩

theorem back_ok {E0 : Env} {b : Mem} {v o : AV} {cv : Value} {l L : List Nat} (hv : Rep E0 v cv []) (hg : ∀ id x, E0.g id = some x → E.g id = some x) (ho : Rep E o cv l) (hb : Blks E b L) (hid : ∀ id ∈ idsOf v, id ∉ b.map (·.1)) (hnd : (idsOf v).Nodup) :
    ∃ L', BackOk E b (back b v o) l L L' (idsOf v) := by
  by_cases hc : ∃ f cs f' os, v = .clo f cs ∧ o = .clo f' os
  · obtain ⟨f, cs, f', os, rfl, rfl⟩ := hc
    cases hv with
    | clo hv =>
      cases ho with
      | clo ho => exact backC_ok hg hv ho hb hid hnd
  · have h1 : back b v o = back1 b v o := by
      unfold back
      split
      · exact absurd ⟨_, _, _, _, rfl, rfl⟩ hc
      · rfl
    rw [h1]
    obtain ⟨L', h⟩ := back1_ok hv hg ho hb (fun id h => hid id (by cases v <;> first | exact h | (simp [idOf] at h)))
    refine ⟨L', h.blk, h.sub, h.nodup, h.keys, fun k hk => ?_⟩
    rcases h.kk k hk with h | h
    · exact .inl h
    · exact .inr (by cases v <;> first | exact h | (simp [idOf] at h))

def idsG : List Bool → List AV → List Nat
  | true :: g, v :: r => idsOf v ++ idsG g r
  | false :: g, _ :: r => idsG g r
  | _, _ => []

theorem BackOk.more {b b' : Mem} {l m L L' ids : List Nat} (h : BackOk E b b' l L L' ids) : BackOk E b b' (m ++ l) L L' ids where
  blk := h.blk
  sub c hc := by rcases List.mem_append.1 (h.sub c hc) with h | h <;> simp [h]
  nodup hn := h.nodup (by rw [List.append_assoc] at hn; exact (List.nodup_append.1 hn).2.1)
  keys := h.keys
  kk := h.kk

theorem backG_ok {E0 E1 : Env} (hg : ∀ id x, E0.g id = some x → E.g id = some x) {z : Prop} (conv : ∀ o cv l, (z ∨ NoF o) → Rep E1 o cv l → Rep E o cv l) : ∀ {gm : List Bool} {vs os : List AV} {cvs : List Value} {b : Mem} {l L : List Nat}, RepL E0 vs cvs [] → RepL E1 os cvs l → (z ∨ noFG gm os) → Blks E b L →
    (∀ id ∈ idsG gm vs, id ∉ b.map (·.1)) → (idsG gm vs).Nodup → ∃ L', BackOk E b (backG gm b vs os) l L L' (idsG gm vs) := by
  intro gm vs
  induction vs generalizing gm with
  | nil =>
    intro os cvs b l L hv ho hz hb _ _
    have h1 : backG gm b [] os = b := by cases gm with
      | nil => rfl
      | cons g gm => cases g <;> rfl
    have h2 : idsG gm [] = [] := by cases gm with
      | nil => rfl
      | cons g gm => cases g <;> rfl
    rw [h1, h2]
    exact ⟨L, hb, fun c hc => List.mem_append_right _ hc, fun h => (List.nodup_append.1 h).2.1, fun h => h, fun k hk => .inl hk⟩
  | cons v vs ih =>
    intro os cvs b l L hv ho hz hb hid hnd
    obtain ⟨cv, cvs', l1, l2, rfl, hl, h1, h2⟩ := hv.inv
    obtain ⟨rfl, rfl⟩ : l1 = [] ∧ l2 = [] := by simpa using hl.symm
    cases os with
    | nil => cases ho
    | cons o os =>
      obtain ⟨cv', cvs'', m1, m2, e, rfl, g1, g2⟩ := ho.inv
      injection e with e1 e2
      subst e1 e2
      cases gm with
      | nil => exact ⟨L, hb, fun c hc => List.mem_append_right _ hc, fun h => (List.nodup_append.1 h).2.1, fun h => h, fun k hk => .inl hk⟩
      | cons g gm =>
        cases g with
        | false =>
          obtain ⟨L2, hb2⟩ := ih (gm := gm) h2 g2 (hz.imp (fun h => h) fun h => h) hb hid hnd
          exact ⟨L2, hb2.more⟩
        | true =>
          simp only [idsG] at hid hnd ⊢
          obtain ⟨L1, hb1⟩ := back_ok h1 hg (conv _ _ _ (hz.imp (fun h => h) fun h => h.1) g1) hb (fun id h => hid id (by simp [h])) (List.nodup_append.1 hnd).1
          obtain ⟨L2, hb2⟩ := ih (gm := gm) h2 g2 (hz.imp (fun h => h) fun h => h.2) hb1.blk (fun id h hm => by
            rcases hb1.kk id hm with hm | hm
            · exact hid id (by simp [h]) hm
            · exact (List.nodup_append.1 hnd).2.2 id hm id h rfl) (List.nodup_append.1 hnd).2.1
          exact ⟨L2, by simpa [backG] using hb1.step hb2⟩
end Go.Ev

/-
A call: entered with its arguments, left with its result and what it left in memory.
-/
set_option linter.unusedVariables false
set_option linter.unusedSimpArgs false
namespace Go.Ev
variable {Sp : FuncId → List AV → AV → List AV → Prop} {P : Program} {E : Env} {s : S} {a : Act} {w : World} {L : List Nat} {K : S → AV → Prop}

theorem fold_keys : ∀ k, (∀ b v v' b' p, fold k b v = some (v', b', p) → (b'.map (·.1)).Sublist (b.map (·.1))) ∧ (∀ b v v' b' p, foldL k b v = some (v', b', p) → (b'.map (·.1)).Sublist (b.map (·.1)))
  | 0 => ⟨fun b v v' b' p h => by simp [fold] at h, fun b v v' b' p h => by simp [foldL] at h⟩
  | k + 1 => by
    obtain ⟨ih1, ih2⟩ := fold_keys k
    have hdel : ∀ id (b : Mem), ((delB id b).map (·.1)).Sublist (b.map (·.1)) := fun id b => by rw [keys_delB]; exact List.erase_sublist
    constructor
    · intro b v v' b' p h
      have dflt : ∀ {v0 : AV} {q : Prop}, some (v0, b, q) = some (v', b', p) → (b'.map (·.1)).Sublist (b.map (·.1)) := fun h => by
        simp only [Option.some.injEq, Prod.mk.injEq] at h; obtain ⟨_, rfl, _⟩ := h; exact List.Sublist.refl _
      have ddel : ∀ {v0 : AV} {q : Prop} {id : Nat}, some (v0, delB id b, q) = some (v', b', p) → (b'.map (·.1)).Sublist (b.map (·.1)) := fun h => by
        simp only [Option.some.injEq, Prod.mk.injEq] at h; obtain ⟨_, rfl, _⟩ := h; exact hdel _ _
      have dmap : ∀ {b0 : Mem} {cs : List AV} {f : List AV → AV}, (foldL k b0 cs).map (fun r => (f r.1, r.2.1, r.2.2)) = some (v', b', p) → (b0.map (·.1)).Sublist (b.map (·.1)) → (b'.map (·.1)).Sublist (b.map (·.1)) := fun h h0 => by
        obtain ⟨r, hr, h⟩ := Option.map_eq_some_iff.1 h
        simp only [Prod.mk.injEq] at h
        obtain ⟨_, rfl, _⟩ := h
        exact (ih2 _ _ _ _ _ hr).trans h0
      cases v <;> simp only [fold] at h
      case row id n off len =>
        split at h
        · exact dflt h
        · exact ddel h
        · cases h
      case loc id j =>
        split at h
        · rename_i e hl; exact dmap (f := fun r => .optr (reCells e r) j) h (hdel _ _)
        · cases h
      case mp id =>
        split at h
        · exact ddel h
        · cases h
      case agg cs => exact dmap (f := .agg) h (List.Sublist.refl _)
      case tup cs => exact dmap (f := .tup) h (List.Sublist.refl _)
      case clo f cs => exact dmap (f := .clo f) h (List.Sublist.refl _)
      all_goals exact dflt h
    · intro b v v' b' p h
      cases v with
      | nil => simp only [foldL, Option.some.injEq, Prod.mk.injEq] at h; obtain ⟨_, rfl, _⟩ := h; exact List.Sublist.refl _
      | cons v vs =>
        simp only [foldL, Option.bind_eq_some_iff, Option.map_eq_some_iff] at h
        obtain ⟨x, hx, y, hy, h⟩ := h
        simp only [Prod.mk.injEq] at h
        obtain ⟨_, rfl, _⟩ := h
        exact (ih2 _ _ _ _ _ hy).trans (ih1 _ _ _ _ _ hx)

def Gone (b b' : Mem) (ids : List Nat) : Prop := ids.Nodup ∧ (∀ id ∈ ids, id ∈ b.map (·.1) ∧ id ∉ b'.map (·.1)) ∧ (b'.map (·.1)).Sublist (b.map (·.1))
theorem Gone.nil {b b' : Mem} (h : (b'.map (·.1)).Sublist (b.map (·.1))) : Gone b b' [] := ⟨List.nodup_nil, (fun _ hh => by cases hh), h⟩
theorem Gone.step {b b1 b2 : Mem} {i1 i2 : List Nat} (h1 : Gone b b1 i1) (h2 : Gone b1 b2 i2) : Gone b b2 (i1 ++ i2) := by
  refine ⟨?_, fun id hid => ?_, h2.2.2.trans h1.2.2⟩
  · rw [List.nodup_append]
    refine ⟨h1.1, h2.1, fun x hx y hy e => ?_⟩
    subst e
    exact (h1.2.1 x hx).2 (h2.2.1 x hy).1
  · rcases List.mem_append.1 hid with h | h
    · exact ⟨(h1.2.1 id h).1, fun hm => (h1.2.1 id h).2 (h2.2.2.subset hm)⟩
    · exact ⟨h1.2.2.subset (h2.2.1 id h).1, (h2.2.1 id h).2⟩

theorem fold_gone {k : Nat} {b b' : Mem} {v v' : AV} {p : Prop} (h : fold k b v = some (v', b', p)) (hk : (b.map (·.1)).Nodup) : Gone b b' (idOf v) := by
  have hs := (fold_keys k).1 _ _ _ _ _ h
  cases v <;> first | exact Gone.nil hs | skip
  rename_i id j
  cases k with
  | zero => simp [fold] at h
  | succ k =>
    simp only [fold] at h
    split at h
    · rename_i e hl
      obtain ⟨r, hr, h⟩ := Option.map_eq_some_iff.1 h
      simp only [Prod.mk.injEq] at h
      obtain ⟨_, rfl, _⟩ := h
      refine ⟨by simp [idOf], fun i hi => ?_, hs⟩
      obtain rfl : i = id := by simpa [idOf] using hi
      refine ⟨look_mem hl, fun hm => ?_⟩
      have := ((fold_keys k).2 _ _ _ _ _ hr).subset hm
      rw [keys_delB] at this
      exact (List.Nodup.not_mem_erase hk) this
    · cases h
theorem foldL_gone : ∀ {k : Nat} {vs : List AV} {b b' : Mem} {v' : List AV} {p : Prop}, foldL k b vs = some (v', b', p) → (b.map (·.1)).Nodup → Gone b b' (vs.flatMap idOf)
  | 0, _, _, _, _, _, h, _ => by simp [foldL] at h
  | k + 1, [], b, b', v', p, h, hk => Gone.nil ((fold_keys (k + 1)).2 _ _ _ _ _ h)
  | k + 1, v :: vs, b, b', v', p, h, hk => by
    simp only [foldL, Option.bind_eq_some_iff, Option.map_eq_some_iff] at h
    obtain ⟨x, hx, y, hy, h⟩ := h
    simp only [Prod.mk.injEq] at h
    obtain ⟨_, rfl, _⟩ := h
    have h1 := fold_gone hx hk
    exact h1.step (foldL_gone hy (h1.2.2.nodup hk))
theorem fold_goneS {b b' : Mem} {v v' : AV} {p : Prop} (h : fold 30 b v = some (v', b', p)) (hk : (b.map (·.1)).Nodup) : Gone b b' (idsOf v) := by
  cases v <;> first | exact fold_gone h hk | skip
  rename_i f cs
  simp only [fold] at h
  obtain ⟨q, hq, e⟩ := Option.map_eq_some_iff.1 h
  simp only [Prod.mk.injEq] at e
  obtain ⟨_, rfl, _⟩ := e
  exact foldL_gone (v' := q.1) (b' := q.2.1) (p := q.2.2) hq hk
theorem giveL_gone : ∀ {gm : List Bool} {vs vs' : List AV} {b b' : Mem} {p : Prop}, giveL gm b vs = some (vs', b', p) → (b.map (·.1)).Nodup → Gone b b' (idsG gm vs)
  | gm, [], vs', b, b', p, h, hk => by
    have h : some (([] : List AV), b, True) = some (vs', b', p) := by
      cases gm with
      | nil => simpa [giveL] using h
      | cons g gm => cases g <;> simpa [giveL] using h
    simp only [Option.some.injEq, Prod.mk.injEq] at h
    obtain ⟨_, rfl, _⟩ := h
    have h2 : idsG gm [] = [] := by cases gm with
      | nil => rfl
      | cons g gm => cases g <;> rfl
    rw [h2]
    exact Gone.nil (List.Sublist.refl _)
  | [], v :: vs, vs', b, b', p, h, hk => by
    simp only [giveL, Option.map_eq_some_iff] at h
    obtain ⟨y, hy, h⟩ := h
    simp only [Prod.mk.injEq] at h
    obtain ⟨_, rfl, _⟩ := h
    have := giveL_gone (vs' := y.1) (b' := y.2.1) (p := y.2.2) hy hk
    have h2 : idsG [] vs = [] := by cases vs <;> rfl
    rw [h2] at this
    exact this
  | false :: gm, v :: vs, vs', b, b', p, h, hk => by
    simp only [giveL, Option.map_eq_some_iff] at h
    obtain ⟨y, hy, h⟩ := h
    simp only [Prod.mk.injEq] at h
    obtain ⟨_, rfl, _⟩ := h
    exact giveL_gone (gm := gm) (vs := vs) (vs' := y.1) (b' := y.2.1) (p := y.2.2) hy hk
  | true :: gm, v :: vs, vs', b, b', p, h, hk => by
    simp only [giveL, Option.bind_eq_some_iff, Option.map_eq_some_iff] at h
    obtain ⟨x, hx, y, hy, h⟩ := h
    simp only [Prod.mk.injEq] at h
    obtain ⟨_, rfl, _⟩ := h
    have h1 := fold_goneS (v' := x.1) (b' := x.2.1) (p := x.2.2) hx hk
    exact h1.step (giveL_gone (vs' := y.1) (b' := y.2.1) (p := y.2.2) hy (h1.2.2.nodup hk))

/-- What a call came to. -/
def DidC (P : Program) (E : Env) (a : Act) (w : World) (L : List Nat) (K : S → AV → Prop) (r : Result Next) : Prop :=
  ∃ g args, r = .ok (.enter g args) w ∧ Calls P g args w fun e w' => ∃ cv, e = .returned cv ∧ ∃ s' v E' L', K s' v ∧ R E' s' a w' L' ∧ Move E w L E' w' L' ∧ Rep E' v cv []

theorem call_did (hSp : ∀ f t r o, Sp f t r o → Spec P f t r o) (hR : R E s a w L) {f : AV} {vs : List AV} {cf : Value} {cvs : Array Value} (hf : Rep E f cf []) (hvs : RepL E vs cvs.toList []) (h : outW Sp (callO s f vs) K) :
    DidC P E a w L K ((do let d ← Deferred.ofValue cf cvs; invoke d.target d.args : Sem Next).run P w) := by
  cases f
  case clo g caps =>
    cases hf with
    | @clo _ _ ccaps _ hcaps =>
      simp only [callO] at h
      obtain ⟨gm, h⟩ := h
      obtain ⟨⟨gv, pb, gp⟩, hgive, h⟩ := okP_of h
      obtain ⟨⟨pv, lent, pp⟩, hpass, hneed1, hneed2, res, outs, hsp, hno, hK⟩ := okP_of h
      simp only at hgive hpass hneed1 hneed2 hno hK hsp
      obtain ⟨⟨fn, hfn, hname, hbody⟩, hspec⟩ := hSp _ _ _ _ hsp
      have hall : RepL E (vs ++ caps) (cvs ++ ccaps).toList [] := by
        have := hvs.append hcaps
        simpa using this
      have hh : E.h = w.heap := hR.heap
      obtain ⟨lp, Lr, rest, hok⟩ := giveL_ok hall hR.blk hR.keys hgive hneed1
      obtain ⟨hlrep, hlbd⟩ := lendA_ok hR hok.blk hok.rep hpass hneed2
      have hgone := giveL_gone hgive hR.keys
      have hndL : (lp ++ (Lr ++ rest)).Nodup := hok.perm.nodup_iff.2 hR.own.nodup
      have hlpL : ∀ b ∈ lp, b ∈ L := fun b hb => hok.perm.mem_iff.1 (by simp [hb])
      have hLrL : ∀ b ∈ Lr, b ∈ L := fun b hb => hok.perm.mem_iff.1 (by simp [hb])
      have hdis : ∀ b ∈ lp, b ∉ Lr := fun b hb hb' => (List.nodup_append.1 hndL).2.2 b hb b (by simp [hb']) rfl
      have hltL : ∀ b ∈ L, b < w.heap.size := fun b hb => by rw [← hh]; exact hR.own.lt b hb
      let st1 : Bool → Nat → Prop := (lentE E lent Lr).st
      have hst1lt : ∀ fl b, st1 fl b → b < w.heap.size := by
        intro fl b hb
        rcases hb with hb | ⟨_, _, hb⟩
        · rw [← hh]; exact hR.own.stlt _ _ hb
        · exact hltL b (hLrL b hb)
      have hst1T : ∀ b, st1 true b → E.st true b := fun b hb => by
        rcases hb with hb | ⟨hb, _⟩
        · exact hb
        · cases hb
      have hrep1 : RepL (bare w.heap st1) pv (cvs ++ ccaps).toList lp := by
        have h1 := hlrep
        have : lentE E lent Lr = { h := w.heap, st := st1, g := E.g } := by simp [lentE, hh, st1]
        rw [this] at h1
        exact h1.base hlbd
      have hown1 : Own (bare w.heap st1) lp := by
        refine ⟨(List.nodup_append.1 hndL).1, fun b hb => hltL b (hlpL b hb), fun b hb hs => ?_, hst1lt, fun b hb => .inl (hR.own.sub b (hst1T b hb))⟩
        rcases hs with hs | ⟨_, _, hs⟩
        · exact hR.own.off b (hlpL b hb) hs
        · exact hdis b hb hs
      refine ⟨g, cvs ++ ccaps, ?_, ?_⟩
      · have hsz : #[] ++ cvs = cvs := by simp
        simp only [Deferred.ofValue, Sem.run_bind, Sem.run_pure, Result.andThen_ok, invoke, callFunc, program, Sem.run, hfn, hname, hbody, Array.empty_append]
        simp [Sem.run_bind, Sem.run_pure, Result.andThen_ok, hfn, hname, hbody]
      · refine (hspec w st1 (cvs ++ ccaps) lp hrep1 hown1).mono fun e w' hpost => ?_
        obtain ⟨v, st', L', rfl, hrep', hown', hgrow⟩ := hpost
        refine ⟨v, rfl, ?_⟩
        let st2 : Bool → Nat → Prop := fun fl b => E.st fl b ∨ st' true b
        let E2 : Env := { h := w'.heap, st := st2, g := E.g }
        have hsub2 : ∀ b, st2 true b → st2 false b := fun b hb => hb.imp (hR.own.sub b) id
        have hext : ∀ l : List Nat, (∀ b ∈ l, b ∉ lp ∧ b < w.heap.size) → Ext E E2 l := fun l hl =>
          ⟨fun b hb => by
            rw [hh]
            rcases hb with hb | hb
            · exact hgrow.keep b (by rw [← hh]; exact hR.own.stlt _ _ hb) fun hm => hR.own.off b (hlpL b hm) hb
            · exact hgrow.keep b (hl b hb).2 (hl b hb).1,
          fun fl b hb => .inl hb, hR.own.sub, fun id x hx => ⟨x, hx, .inl rfl⟩⟩
        have hblk2 : Blks E2 pb Lr := hok.blk.ext (hext Lr fun b hb => ⟨fun hm => hdis b hm hb, hltL b (hLrL b hb)⟩) fun _ _ => rfl
        have conv : ∀ o cv l, (lent = [] ∨ NoF o) → Rep (bare w'.heap st') o cv l → Rep E2 o cv l := by
          intro o cv l hz hrep'
          have h2 : Rep (bare w'.heap st2) o cv l := by
            rcases hz with hno | hno
            · refine hrep'.ext ⟨fun _ _ => rfl, fun fl b hb => ?_, hown'.sub, fun id x hx => by cases hx⟩
              cases fl with
              | true => exact .inr hb
              | false =>
                rcases hgrow.stF b hb with h | h
                · rcases h with h | ⟨_, h, _⟩
                  · exact .inl h
                  · exact absurd hno h
                · exact .inr h
            · exact Rep.firm (E := bare w'.heap st') (E' := bare w'.heap st2) rfl (fun b hb => .inr hb) rfl hrep' hno
          exact h2.ext ⟨fun _ _ => rfl, fun _ _ h => h, hsub2, fun id x hx => by cases hx⟩
        obtain ⟨cv', cvs', lr, lo, e, rfl, hres, houts⟩ := hrep'.inv
        injection e with e1 e2
        subst e1 e2
        have hres := conv _ _ _ (hno.imp (fun h => h) fun h => h.1) hres
        have hndlrlo := hown'.nodup
        obtain ⟨L2, hback⟩ := backG_ok (E := E2) (E0 := E) (E1 := bare w'.heap st') (z := lent = []) (b := pb) (gm := gm) (fun id x hx => hx) conv hall houts (hno.imp (fun h => h) fun h => h.2) hblk2 (fun id hid => (hgone.2.1 id hid).2) hgone.1
        have hkeys2 := hback.keys (hok.keys.nodup hR.keys)
        have hlt2 : ∀ k ∈ (backG gm pb (vs ++ caps) outs).map (·.1), k < s.n := by
          intro k hk
          rcases hback.kk k hk with h | h
          · exact hR.keysLt k (hok.keys.subset h)
          · exact hR.keysLt k (hgone.2.1 k h).1
        obtain ⟨g', L3, hunf⟩ := unf_ok (E := E2) hsub2 res v _ s.n lr L2 hres hback.blk hR.gn hkeys2 hlt2
        have hL2 : ∀ b ∈ L2, b ∈ lo ++ Lr := hback.sub
        have hL3 : ∀ b ∈ L3, b ∈ lr ++ lo ∨ b ∈ Lr := fun b hb => by
          rcases List.mem_append.1 (hunf.perm.mem_iff.1 hb) with h | h
          · exact .inl (by simp [h])
          · rcases List.mem_append.1 (hL2 b h) with h | h
            · exact .inl (by simp [h])
            · exact .inr h
        have hdis2 : ∀ b ∈ lr ++ lo, b ∉ Lr := fun b hb hb' => by
          rcases hgrow.new b hb with h | h
          · exact hdis b h hb'
          · have := hltL b (hLrL b hb'); omega
        have hnd : (lr ++ (lo ++ Lr)).Nodup := by
          rw [← List.append_assoc, List.nodup_append]
          exact ⟨hndlrlo, (List.nodup_append.1 (List.nodup_append.1 hndL).2.1).1, fun x hx y hy e => hdis2 x hx (e ▸ hy)⟩
        have hndL2 : L2.Nodup := hback.nodup (List.nodup_append.1 hnd).2.1
        have hndL3 : L3.Nodup := by
          refine hunf.perm.nodup_iff.2 ?_
          rw [List.nodup_append]
          exact ⟨(List.nodup_append.1 hndlrlo).1, hndL2, fun x hx y hy e => (List.nodup_append.1 hnd).2.2 x hx y (hL2 y hy) e⟩
        have hst2N : ∀ fl b, st2 fl b → E.st fl b ∨ b ∈ lp ∨ w.heap.size ≤ b := by
          intro fl b hb
          rcases hb with hb | hb
          · exact .inl hb
          · rcases hgrow.stN true b hb with h | h
            · have := hst1T b h
              cases fl with
              | true => exact .inl this
              | false => exact .inl (hR.own.sub b this)
            · exact .inr h
        have hown3 : Own { E2 with g := g' } L3 := by
          refine ⟨hndL3, fun b hb => ?_, fun b hb hs => ?_, fun fl b hb => ?_, hsub2⟩
          · rcases hL3 b hb with h | h
            · exact hown'.lt b h
            · exact Nat.lt_of_lt_of_le (hltL b (hLrL b h)) hgrow.size
          · rcases hL3 b hb with h | h
            · have h1 := hown'.off b h
              rcases hs with hs | hs
              · exact h1 (hgrow.stM false b (.inl hs))
              · exact h1 (hown'.sub b hs)
            · rcases hst2N false b hs with h1 | h1 | h1
              · exact hR.own.off b (hLrL b h) h1
              · exact hdis b h1 h
              · have := hltL b (hLrL b h); omega
          · rcases hb with hb | hb
            · exact Nat.lt_of_lt_of_le (by rw [← hh]; exact hR.own.stlt _ _ hb) hgrow.size
            · exact hown'.stlt _ _ hb
        have hext3 : Ext E { E2 with g := g' } [] := ⟨(hext [] fun _ h => by cases h).heap, fun _ _ h => .inl h, hR.own.sub, fun id x hx => ⟨x, hunf.old id x hx, .inl rfl⟩⟩
        refine ⟨_, _, { E2 with g := g' }, L3, hK, ⟨rfl, hR.m, fun k u hk => (hR.tmp k u hk).ext hext3, hunf.blk, hunf.keys, hown3, hunf.gn, hR.defers⟩, ⟨hext3, rfl, hgrow.size, fun b hb hn => hgrow.keep b hb fun hm => hn (hlpL b hm), fun fl b hb => ?_, fun b hb => ?_, hown3, hgrow.os, hgrow.tape, hgrow.output, fun b hb => hb.imp id .inr⟩, hunf.rep⟩
        · rcases hst2N fl b hb with h | h | h
          · exact .inl h
          · exact .inr (.inl (hlpL b h))
          · exact .inr (.inr h)
        · rcases hL3 b hb with h | h
          · rcases hgrow.new b h with h | h
            · exact .inl (hlpL b h)
            · exact .inr h
          · exact .inl (hLrL b h)
  all_goals exact h.elim
end Go.Ev

/-
Maps: made, written, asked.
-/
set_option linter.unusedVariables false
set_option linter.unusedSimpArgs false
namespace Go.Ev
variable {Sp : FuncId → List AV → AV → List AV → Prop} {P : Program} {E : Env} {s : S} {a : Act} {w : World} {L : List Nat} {K : S → AV → Prop}

theorem kind_map {t k e : TypeId} (h : mapK (kindT P t) = some (k, e)) : P.underlying t = some (.map k e) := by
  unfold mapK at h
  split at h
  · rename_i k' e' hk
    injection h with h
    injection h with h1 h2
    subst h1 h2
    unfold kindT at hk
    split at hk <;> first | cases hk | skip
    assumption
  · cases h
def lkT : LK → TypeDesc
  | .bool => .bool
  | .int k => .int k
  | .str => .string
theorem kind_key {t : TypeId} {lk : LK} (h : keyK (kindT P t) = some lk) : P.underlying t = some (lkT lk) := by
  unfold keyK at h
  split at h
  · rename_i hk; injection h with h; subst h; exact kind_str hk
  · rename_i k hk; injection h with h; subst h; exact kind_int hk
  · rename_i hk; injection h with h; subst h
    unfold kindT at hk
    split at hk <;> first | cases hk | skip
    assumption
  · cases h

theorem bytes_eqL (a b : ByteArray) : (a == b) = (a.toList == b.toList) := by
  rw [Bool.eq_iff_iff, MapKept.bytes_beq]
  constructor
  · rintro rfl; simp
  · intro h
    have h' : a.toList = b.toList := by simpa using h
    apply ByteArray.ext
    apply Array.toList_inj.1
    rw [← ByteArray.toList_eq, ← ByteArray.toList_eq]
    exact h'
theorem bytes_comm (a b : ByteArray) : (a == b) = (b == a) := by
  rw [Bool.eq_iff_iff, MapKept.bytes_beq, MapKept.bytes_beq]; exact eq_comm

theorem eqK_now {lk : LK} {x y : AV} {cx cy : Value} {r : Bool} (hx : Rep E x cx []) (hy : Rep E y cy []) (h : eqK lk x y = some r) : Instr.sameNow (lkT lk) cx cy = some r ∧ (r = true → Instr.sameBits 10000 cy cx = true) := by
  unfold eqK at h
  split at h
  · cases hx; cases hy; injection h with h; subst h; exact ⟨rfl, fun h => by simp [Instr.sameBits] at h ⊢; exact h.symm⟩
  · cases hx; cases hy
    split at h
    · rename_i hk; subst hk; injection h with h; subst h
      exact ⟨by simp [Instr.sameNow, lkT], fun h => by simp [Instr.sameBits] at h ⊢; exact h.symm⟩
    · cases h
  · cases hx; cases hy; injection h with h; subst h
    refine ⟨?_, fun h => ?_⟩
    · simp only [Instr.sameNow, lkT]; rw [bytes_eqL]
    · rw [← bytes_eqL, bytes_comm] at h; simpa [Instr.sameBits] using h
  · cases h

theorem findM_now {lk : LK} {k : AV} {ck : Value} (hk : Rep E k ck []) : ∀ {ks vs : List AV} {es : List MapEntry} {r : Option AV} {i : Nat}, RepL E ks (es.map (·.key)) [] → RepL E vs (es.map (·.val)) [] → findM lk k ks vs = some r →
    (r = none ∧ Instr.findNow (lkT lk) ck es i = some none) ∨ ∃ v j cv, r = some v ∧ Instr.findNow (lkT lk) ck es i = some (some (j, cv)) ∧ Rep E v cv []
  | [], vs, es, r, i, h1, h2, h => by
    cases es with
    | nil => simp only [findM, Option.some.injEq] at h; exact .inl ⟨h.symm, rfl⟩
    | cons e es => cases h1
  | x :: ks, vs, es, r, i, h1, h2, h => by
    cases es with
    | nil => cases h1
    | cons e es =>
      cases vs with
      | nil => cases h2
      | cons v vs =>
        obtain ⟨c1, cs1, l1, l2, e1, hl, g1, g2⟩ := h1.inv
        obtain ⟨rfl, rfl⟩ : l1 = [] ∧ l2 = [] := by simpa using hl.symm
        obtain ⟨c2, cs2, l3, l4, e2, hl2, g3, g4⟩ := h2.inv
        obtain ⟨rfl, rfl⟩ : l3 = [] ∧ l4 = [] := by simpa using hl2.symm
        simp only [List.map_cons, List.cons.injEq] at e1 e2
        obtain ⟨rfl, rfl⟩ := e1
        obtain ⟨rfl, rfl⟩ := e2
        simp only [findM, Option.bind_eq_some_iff] at h
        obtain ⟨q, hq, h⟩ := h
        obtain ⟨hn, _⟩ := eqK_now hk g1 hq
        cases q with
        | true =>
          simp only [if_true, Option.some.injEq] at h
          subst h
          exact .inr ⟨v, i, e.val, rfl, by simp [Instr.findNow, hn], g3⟩
        | false =>
          simp only [Bool.false_eq_true, if_false] at h
          have := findM_now hk (i := i + 1) g2 g4 h
          simpa [Instr.findNow, hn] using this

theorem run_find {kt : TypeId} {lk : LK} (hkt : P.underlying kt = some (lkT lk)) {ck : Value} {es : List MapEntry} {r : Option (Nat × Value)} (h : Instr.findNow (lkT lk) ck es 0 = some r) : (Instr.findKey kt ck es).run P w = .ok r w := by
  unfold Instr.findKey
  simp only [Sem.run_bind, run_underlying hkt, Result.andThen_ok, h, Sem.run_pure]
theorem run_check {kt : TypeId} {lk : LK} (hkt : P.underlying kt = some (lkT lk)) (em : Bool) (ck : Value) : (Instr.checkKey em 10000 kt ck).run P w = .ok () w := by
  unfold Instr.checkKey
  simp only [Sem.run_bind, run_underlying hkt, Result.andThen_ok]
  cases lk <;> cases ck <;> rfl

theorem lookup_did (hR : R E s a w L) {t : TypeId} {ok : Bool} {m k : AV} {cm ck : Value} {r : List AV × List AV} {kk : TypeId × TypeId} {lk : LK} {v : Option AV} (hm : Rep E m cm []) (hk : Rep E k ck []) (hr : mapOf s.b m = some r) (hkk : mapK (kindT P t) = some kk)
    (hlk : keyK (kindT P kk.1) = some lk) (hf : findM lk k r.1 r.2 = some v) (hz : C1 (zeroT P kk.2) = true) (h : outW Sp (lookK s ok (zeroT P kk.2) v) K) : DidG true E s a w L K ((Instr.lookup t cm ck ok).run P w) := by
  have hu := kind_map (k := kk.1) (e := kk.2) hkk
  have hku := kind_key hlk
  obtain ⟨z, hz1, hz2⟩ := zeroT_rep (E := E) (.inl hz)
  have hzr : (zeroValue kk.2).run P w = .ok z w := by
    obtain ⟨i, hi, hiz⟩ := Option.bind_eq_some_iff.1 hz1
    simp [zeroValue, typeInfo, hi, hiz]
  have fin : ∀ {u : AV} {cu : Value} {b : Bool}, v.getD (zeroT P kk.2) = u → v.isSome = b → Rep E u cu [] → (Instr.lookup t cm ck ok).run P w = .ok (if ok = true then .tuple #[cu, .bool b] else cu) w → DidG true E s a w L K ((Instr.lookup t cm ck ok).run P w) := by
    intro u cu b hu hb hrep hrun
    rw [hrun]
    unfold lookK at h
    rw [hu, hb] at h
    split at h
    · rename_i ho
      rw [if_pos ho]
      exact did_ok hR h (.tup (.cons (l := []) (m := []) hrep (.cons (l := []) (m := []) (.bool _) .nil)))
    · rename_i ho
      rw [if_neg ho]
      exact did_ok hR h hrep
  have main : ∀ {es : Array MapEntry} {clock : Nat}, RepL E r.1 (es.toList.map (·.key)) [] → RepL E r.2 (es.toList.map (·.val)) [] → (∀ {v' : Value} {b : Bool}, (∀ q, (Instr.findKey kk.1 ck es.toList).run P w = .ok q w → (match q with | some (_, v) => (v, true) | none => (z, false)) = (v', b)) →
      (Instr.lookup t cm ck ok).run P w = .ok (if ok = true then .tuple #[v', .bool b] else v') w) → DidG true E s a w L K ((Instr.lookup t cm ck ok).run P w) := by
    intro es clock h1 h2 hrun
    rcases findM_now hk (i := 0) h1 h2 hf with ⟨rfl, hn⟩ | ⟨u, j, cu, rfl, hn, hrep⟩
    · refine fin (u := zeroT P kk.2) (cu := z) (b := false) rfl rfl hz2 (hrun fun q hq => ?_)
      have := run_find (w := w) hku hn
      rw [this] at hq; injection hq with hq; subst hq; rfl
    · refine fin (u := u) (cu := cu) (b := true) rfl rfl hrep (hrun fun q hq => ?_)
      have := run_find (w := w) hku hn
      rw [this] at hq; injection hq with hq; subst hq; rfl
  have hfind : ∀ {es : Array MapEntry}, RepL E r.1 (es.toList.map (·.key)) [] → RepL E r.2 (es.toList.map (·.val)) [] → ∃ q, (Instr.findKey kk.1 ck es.toList).run P w = .ok q w := fun h1 h2 => by
    rcases findM_now hk (i := 0) h1 h2 hf with ⟨_, hn⟩ | ⟨u, j, cu, _, hn, _⟩ <;> exact ⟨_, run_find hku hn⟩
  cases m
  case mp id =>
    obtain ⟨blk, hl, hg⟩ := Option.bind_eq_some_iff.1 hr
    cases blk <;> simp [getMap] at hg
    rename_i ks vs
    subst hg
    obtain ⟨l, hbr, _⟩ := hR.get hl
    cases hm with
    | @mp _ x b1 hg ho hb1 =>
      cases hbr with
      | @map _ _ x' b2 es clock hg' ho' hx' hb' hk' hv' =>
        obtain rfl : x = x' := by rw [hg] at hg'; injection hg'
        obtain rfl : b1 = b2 := by rw [hb1] at hx'; injection hx'
        have hbw : w.heap[b1]? = some (.map es clock) := by rw [← hR.heap]; exact hb'
        refine main (clock := clock) hk' hv' fun {v' b} hq => ?_
        obtain ⟨q, hrq⟩ := hfind hk' hv'
        have := hq q hrq
        unfold Instr.lookup
        simp only [Sem.run_bind, run_underlying hu, Result.andThen_ok, MapKept.run_getObj_map hbw, Sem.run_pure, run_check hku, hrq]
        cases q with
        | none => injection this with h1 h2; subst h1 h2; simp [hzr, Sem.run_bind]
        | some p => injection this with h1 h2; subst h1 h2; simp [Sem.run_bind]
  case nilm =>
    injection hr with hr
    subst hr
    cases hm
    refine main (es := #[]) (clock := 0) .nil .nil fun {v' b} hq => ?_
    obtain ⟨q, hrq⟩ := hfind (es := #[]) .nil .nil
    have := hq q hrq
    unfold Instr.lookup
    simp only [Sem.run_bind, run_underlying hu, Result.andThen_ok, Sem.run_pure, run_check hku, hrq]
    cases q with
    | none => injection this with h1 h2; subst h1 h2; simp [hzr, Sem.run_bind]
    | some p => injection this with h1 h2; subst h1 h2; simp [Sem.run_bind]
  all_goals cases hr
end Go.Ev

/-
Maps: made, written.
-/
set_option linter.unusedVariables false
set_option linter.unusedSimpArgs false
namespace Go.Ev
variable {Sp : FuncId → List AV → AV → List AV → Prop} {P : Program} {E : Env} {s : S} {a : Act} {w : World} {L : List Nat} {K : S → AV → Prop}

def setW (w : World) (b : Nat) (o : Obj) : World := { w with heap := w.heap.setIfInBounds b o }

theorem heap_move (hR : R E s a w L) {b : Nat} (hbL : b ∈ L) (o : Obj) :
    Move E w L { h := (setW w b o).heap, st := E.st, g := E.g } (setW w b o) L ∧ (∀ l : List Nat, b ∉ l → Ext E { h := (setW w b o).heap, st := E.st, g := E.g } l) ∧ (setW w b o).heap[b]? = some o := by
  have hlt : b < w.heap.size := by rw [← hR.heap]; exact hR.own.lt b hbL
  have hsz : (setW w b o).heap.size = E.h.size := by rw [hR.heap]; simp [setW]
  have hext : ∀ l : List Nat, b ∉ l → Ext E { h := (setW w b o).heap, st := E.st, g := E.g } l := fun l hbl =>
    ⟨fun k hk => by
      show (w.heap.setIfInBounds b o)[k]? = E.h[k]?
      rw [hR.heap, Array.getElem?_setIfInBounds]
      split
      · rename_i e
        subst e
        rcases hk with hk | hk
        · exact absurd hk (hR.own.off _ hbL)
        · exact absurd hk hbl
      · rfl, fun _ _ h => h, hR.own.sub, fun id x h => ⟨x, h, .inl rfl⟩⟩
  refine ⟨⟨hext [] (by simp), rfl, by simp [setW], fun k _ hk => ?_, fun _ _ h => .inl h, fun c hc => .inl hc, ⟨hR.own.nodup, fun c hc => ?_, hR.own.off, fun fl c hc => ?_, hR.own.sub⟩, rfl, rfl, rfl, fun _ h => .inl h⟩, hext, ?_⟩
  · show (w.heap.setIfInBounds b o)[k]? = w.heap[k]?
    rw [Array.getElem?_setIfInBounds, if_neg (fun e : b = k => hk (by subst e; exact hbL))]
  · show c < (setW w b o).heap.size
    rw [hsz]; exact hR.own.lt c hc
  · show c < (setW w b o).heap.size
    rw [hsz]; exact hR.own.stlt fl c hc
  · show (w.heap.setIfInBounds b o)[b]? = some o
    rw [Array.getElem?_setIfInBounds, if_pos rfl, if_pos hlt]

/-- A map's block written. -/
theorem map_core (hR : R E s a w L) {id : Nat} {ks vs ks' vs' : List AV} (hl : look id s.b = some (.map ks vs)) {x : Loc} {b : Nat} (hg : E.g id = some x) (hx : x.blk = some b) {es : Array MapEntry} {clock : Nat}
    (h1 : RepL E ks' (es.toList.map (·.key)) []) (h2 : RepL E vs' (es.toList.map (·.val)) []) :
    ∃ E' L', R E' { s with b := setB id (.map ks' vs') s.b } a (setW w b (.map es clock)) L' ∧ Move E w L E' (setW w b (.map es clock)) L' := by
  obtain ⟨p, l, q, hL, hbr, hset⟩ := hR.blk.set hl hR.keys
  cases hbr with
  | @map _ _ x' b' es0 c0 hg' ho hx' hb' hk' hv' =>
    obtain rfl : x = x' := by rw [hg] at hg'; injection hg'
    obtain rfl : b = b' := by rw [hx] at hx'; injection hx'
    have hbL : b ∈ L := by rw [hL]; simp
    obtain ⟨hm, hext, hnew⟩ := heap_move hR hbL (.map es clock)
    have hnd := hR.own.nodup
    have hbpq : b ∉ p ++ q := by
      rw [hL] at hnd
      intro hm
      rw [List.nodup_append] at hnd
      obtain ⟨h1, h2, h3⟩ := hnd
      rcases List.mem_append.1 hm with hm | hm
      · exact h3 b hm b (by simp) rfl
      · rw [List.cons_append, List.nodup_cons] at h2
        exact h2.1 (by simp [hm])
    have hB := hset { h := (setW w b (.map es clock)).heap, st := E.st, g := E.g } (.map ks' vs') [b] (.map (x := x) hg ho hx hnew (h1.ext (hext [] (by simp))) (h2.ext (hext [] (by simp)))) (hext _ hbpq) (fun _ _ _ => rfl)
    rw [← hL] at hB
    exact ⟨_, _, hR.step hm (b := setB id (.map ks' vs') s.b) (n := s.n) hB (by rw [keys_setB]; exact hR.keys) hR.gn, hm⟩

theorem setM_now {lk : LK} {k v : AV} {ck cv : Value} (hk : Rep E k ck []) (hv : Rep E v cv []) : ∀ {ks vs ks' vs' : List AV} {es : List MapEntry} {i : Nat}, RepL E ks (es.map (·.key)) [] → RepL E vs (es.map (·.val)) [] → setM lk k v ks vs = some (ks', vs') →
    (Instr.findNow (lkT lk) ck es i = some none ∧ ∀ e : MapEntry, e.key = ck → e.val = cv → RepL E ks' ((es ++ [e]).map (·.key)) [] ∧ RepL E vs' ((es ++ [e]).map (·.val)) []) ∨
    (∃ j u, Instr.findNow (lkT lk) ck es i = some (some (i + j, u)) ∧ (∃ e, es[j]? = some e ∧ Instr.sameBits 10000 e.key ck = true) ∧
      RepL E ks' ((es.modify j fun e => { e with key := ck, val := cv }).map (·.key)) [] ∧ RepL E vs' ((es.modify j fun e => { e with key := ck, val := cv }).map (·.val)) [])
  | [], vs, ks', vs', es, i, h1, h2, h => by
    cases es with
    | cons e es => cases h1
    | nil =>
      cases h2
      simp only [setM, Option.some.injEq, Prod.mk.injEq] at h
      obtain ⟨rfl, rfl⟩ := h
      refine .inl ⟨rfl, fun e h3 h4 => ?_⟩
      subst h3 h4
      exact ⟨.cons (l := []) (m := []) hk .nil, .cons (l := []) (m := []) hv .nil⟩
  | x :: ks, vs, ks', vs', es, i, h1, h2, h => by
    cases es with
    | nil => cases h1
    | cons e es =>
      cases vs with
      | nil => cases h2
      | cons y vs =>
        obtain ⟨c1, cs1, l1, l2, e1, hl, g1, g2⟩ := h1.inv
        obtain ⟨rfl, rfl⟩ : l1 = [] ∧ l2 = [] := by simpa using hl.symm
        obtain ⟨c2, cs2, l3, l4, e2, hl2, g3, g4⟩ := h2.inv
        obtain ⟨rfl, rfl⟩ : l3 = [] ∧ l4 = [] := by simpa using hl2.symm
        simp only [List.map_cons, List.cons.injEq] at e1 e2
        obtain ⟨rfl, rfl⟩ := e1
        obtain ⟨rfl, rfl⟩ := e2
        simp only [setM, Option.bind_eq_some_iff] at h
        obtain ⟨q, hq, h⟩ := h
        obtain ⟨hn, hsame⟩ := eqK_now hk g1 hq
        cases q with
        | true =>
          simp only [if_true, Option.some.injEq, Prod.mk.injEq] at h
          obtain ⟨rfl, rfl⟩ := h
          refine .inr ⟨0, e.val, by simp [Instr.findNow, hn], ⟨e, rfl, hsame rfl⟩, ?_, ?_⟩
          · exact .cons (l := []) (m := []) hk g2
          · exact .cons (l := []) (m := []) hv g4
        | false =>
          simp only [Bool.false_eq_true, if_false, Option.map_eq_some_iff] at h
          obtain ⟨r, hr, h⟩ := h
          simp only [Prod.mk.injEq] at h
          obtain ⟨rfl, rfl⟩ := h
          rcases setM_now hk hv (i := i + 1) g2 g4 (ks' := r.1) (vs' := r.2) hr with ⟨h5, h6⟩ | ⟨j, u, h5, h6, h7, h8⟩
          · refine .inl ⟨by simpa [Instr.findNow, hn] using h5, fun e' h3 h4 => ?_⟩
            obtain ⟨h7, h8⟩ := h6 e' h3 h4
            exact ⟨.cons (l := []) (m := []) g1 h7, .cons (l := []) (m := []) g3 h8⟩
          · refine .inr ⟨j + 1, u, by simp [Instr.findNow, hn, h5]; omega, by simpa using h6, ?_, ?_⟩
            · exact .cons (l := []) (m := []) g1 h7
            · exact .cons (l := []) (m := []) g3 h8

theorem mapSet_did (hR : R E s a w L) {t : TypeId} {m k v : AV} {cm ck cv : Value} {kk : TypeId × TypeId} {lk : LK} (hm : Rep E m cm []) (hk : Rep E k ck []) (hv : Rep E v cv []) (hkk : mapK (kindT P t) = some kk)
    (hlk : keyK (kindT P kk.1) = some lk) (h : outW Sp (mapSetO s m k v lk) K) : DidU E s a w L K ((Instr.mapUpdate t cm ck cv).run P w) := by
  have hu := kind_map (k := kk.1) (e := kk.2) hkk
  have hku := kind_key hlk
  cases m
  case mp id =>
    simp only [mapSetO] at h
    obtain ⟨r, hr, hA⟩ := outW_okO h
    obtain ⟨q, hq, hB⟩ := outW_okO hA
    obtain ⟨blk, hl, hg⟩ := Option.bind_eq_some_iff.1 hr
    cases blk <;> simp [getMap] at hg
    rename_i ks vs
    subst hg
    obtain ⟨l, hbr, _⟩ := hR.get hl
    cases hm with
    | @mp _ x b1 hg ho hb1 =>
      cases hbr with
      | @map _ _ x' b2 es clock hg' ho' hx' hb' hk' hv' =>
        obtain rfl : x = x' := by rw [hg] at hg'; injection hg'
        obtain rfl : b1 = b2 := by rw [hb1] at hx'; injection hx'
        have hbw : w.heap[b1]? = some (.map es clock) := by rw [← hR.heap]; exact hb'
        rcases setM_now hk hv (i := 0) hk' hv' (ks' := q.1) (vs' := q.2) hq with ⟨h5, h6⟩ | ⟨j, u, h5, ⟨e, he, hsb⟩, h7, h8⟩
        · obtain ⟨h7, h8⟩ := h6 { key := ck, val := cv, born := clock } rfl rfl
          obtain ⟨E', L', hR', hm'⟩ := map_core hR hl hg hb1 (es := es.push { key := ck, val := cv, born := clock }) (clock := clock + 1) (by simpa using h7) (by simpa using h8)
          refine ⟨_, E', _, L', hB, hR', hm', ?_⟩
          unfold Instr.mapUpdate
          simp only [Sem.run_bind, run_underlying hu, Result.andThen_ok, MapKept.run_getObj_map hbw, run_check hku, run_find hku h5, MapKept.run_setObj_map _ hbw]
          rfl
        · rw [Nat.zero_add] at h5
          have hea : es[j]? = some e := by rw [← Array.getElem?_toList]; exact he
          obtain ⟨E', L', hR', hm'⟩ := map_core hR hl hg hb1 (es := es.modify j fun e => { e with key := ck, val := cv }) (clock := clock) (by simpa using h7) (by simpa using h8)
          refine ⟨_, E', _, L', hB, hR', hm', ?_⟩
          unfold Instr.mapUpdate
          simp only [Sem.run_bind, run_underlying hu, Result.andThen_ok, MapKept.run_getObj_map hbw, run_check hku, run_find hku h5, Instr.keyThatStays, hea, Option.map_some, Option.getD_some, hsb, if_true, Sem.run_pure, MapKept.run_setObj_map _ hbw]
          rfl
  all_goals exact h.elim

theorem makeMap_did (hR : R E s a w L) {m : Sem Value} (hr : m.run P w = .ok (.map (some w.heap.size)) (w.alloc (.map #[] 0))) (h : outW Sp (makeMapO s) K) : Did E s a w L K (m.run P w) := by
  let x : Loc := ⟨true, some w.heap.size, 0, 0, 0⟩
  obtain ⟨hmv, hext, hnew⟩ := alloc_move hR w rfl rfl rfl rfl (.map #[] 0) (g := updG E.g s.n x) (fun id y hy => ⟨y, updG_old hR.gn id y hy, .inl rfl⟩) (L' := L) hR.own.nodup fun _ h => h
  rw [hr]
  refine ⟨_, _, _, _, _, _, h, hR.step hmv (b := (s.n, .map [] []) :: s.b) (n := s.n + 1) ?_ ?_ (updG_lt hR.gn), hmv, .mp (l := x) updG_new rfl rfl, rfl, fun h => nomatch h⟩
  · have hb : BlkRep { h := (w.alloc (.map #[] 0)).heap, st := E.st, g := updG E.g s.n x } s.n (.map [] []) [w.heap.size] := .map (x := x) updG_new rfl rfl hnew .nil .nil
    exact Blks.cons (l := [w.heap.size]) hb (hR.blk.ext (hext L fun _ h => h) fun id hid => by
      have := hR.keysLt id hid
      simp only [updG, if_neg (show ¬ id = s.n by omega)])
  · simp only [List.map_cons, List.nodup_cons]
    exact ⟨fun hm => by have := hR.keysLt _ hm; omega, hR.keys⟩
theorem makeMap_run {t : TypeId} : (Instr.makeMap t none).run P w = .ok (.map (some w.heap.size)) (w.alloc (.map #[] 0)) := rfl
theorem makeMap_runS {t : TypeId} {kk : TypeId × TypeId} (hkk : mapK (kindT P t) = some kk) {v : AV} {cv : Value} {n : Int} (hv : Rep E v cv []) (hn : intOf v = some n) : (Instr.makeMap t (some cv)).run P w = .ok (.map (some w.heap.size)) (w.alloc (.map #[] 0)) := by
  have hu := kind_map (k := kk.1) (e := kk.2) hkk
  unfold intOf at hn
  split at hn
  · cases hv
    unfold Instr.makeMap
    simp only [Sem.run_bind, run_underlying hu, Result.andThen_ok, asInt, Sem.run_pure]
    rfl
  · cases hn
end Go.Ev

/-
Every operation; regions; code.
-/
set_option linter.unusedVariables false
set_option linter.unusedSimpArgs false
namespace Go.Ev
variable {Sp : FuncId → List AV → AV → List AV → Prop} {P : Program} {E : Env} {s : S} {a : Act} {w : World} {L : List Nat} {K : S → AV → Prop}

def Rel (E0 : Env) (w0 : World) (L0 : List Nat) (s : S) (a : Act) (w : World) : Prop := ∃ E L, R E s a w L ∧ Move E0 w0 L0 E w L
def Low (E0 : Env) (w0 : World) : Prop := ∀ fl b, E0.st fl b → b < w0.heap.size

variable {E0 : Env} {w0 : World} {L0 : List Nat} {o : Oper} {next : Act → World → Prop} {Q : Exit → Act → World → Prop}

/-- What the evaluation of an operation says of it. -/
inductive OpR (P : Program) (E : Env) (s : S) (a : Act) (w : World) (L : List Nat) (K : S → AV → Prop) (o : Oper) : Prop where
  | value {q : Bool} (m : Sem Value) (hrun : ∀ cv w', m.run P w = .ok cv w' → (execOp a.eval o).run P w = .ok (.value cv) w') (hq : stillO o.op = true → q = true) (hd : DidG q E s a w L K (m.run P w))
  | skip {s' : S} {E' : Env} {w' : World} {L' : List Nat} (hs : stillO o.op = false) (hK : K s' .undef) (hR : R E' s' a w' L') (hm : Move E w L E' w' L') (hrun : (execOp a.eval o).run P w = .ok .skip w')
  | call (hs : stillO o.op = false) (hd : DidC P E a w L K ((execOp a.eval o).run P w))
theorem val_t (m : Sem Value) (hrun : ∀ cv w', m.run P w = .ok cv w' → (execOp a.eval o).run P w = .ok (.value cv) w') (hd : DidG true E s a w L K (m.run P w)) : OpR P E s a w L K o := .value m hrun (fun _ => rfl) hd
theorem val_f (m : Sem Value) (hns : stillO o.op = false) (hrun : ∀ cv w', m.run P w = .ok cv w' → (execOp a.eval o).run P w = .ok (.value cv) w') (hd : Did E s a w L K (m.run P w)) : OpR P E s a w L K o := .value m hrun (fun h => by rw [hns] at h; cases h) hd

theorem lift_v {m : Sem Value} {cv : Value} {w' : World} (h : m.run P w = .ok cv w') : (do pure (Next.value (← m)) : Sem Next).run P w = .ok (.value cv) w' := by
  rw [Sem.run_bind, h]; rfl

theorem map_toArray {xs : Array Operand} (f : Operand → Value) : (xs.map f).toList = xs.toList.map f := by simp
theorem parts_toArray {xs : Array (Nat × Operand)} (f : Operand → Value) : (xs.toList.map fun p => (p.1, f p.2)).toArray = xs.map fun (i, x) => (i, f x) := by
  apply Array.toList_inj.1; simp

theorem array_of_toList {α : Type} {xs : Array α} {l : List α} (h : xs.toList = l) : xs = l.toArray := by subst h; rfl

theorem append_did (hR : R E s a w L) {t ty e : TypeId} (hk : kindT P t = .slice e) {x y : AV} {cx cy : Value} (hx : Rep E x cx []) (hy : Rep E y cy [])
    (h : outW Sp (appendO s (zok P e) (szT P e) (byT P e) x y) K) : Did E s a w L K ((Builtin.append_ #[t, t] ty #[cx, cy]).run P w) := by
  cases x
  case row id n off len =>
    simp only [appendO] at h
    obtain ⟨xsz, xs, hA, hsrc⟩ := els_src hR hy h
    obtain ⟨r, hr, hB⟩ := outW_okO hA
    obtain ⟨⟨hzk, rfl, rfl, rfl⟩, hC⟩ := hB
    exact appK_did hR hk hr hsrc hzk hx hC
  case rowc id n off len => exact appendC_did hR hk hx hy h
  all_goals exact h.elim

theorem builtin_did (hR : R E s a w L) {b : Builtin} {ts : Array TypeId} {ty : TypeId} {args : List AV} {cargs : Array Value} (ha : RepL E args cargs.toList []) (h : outW Sp (builtinO P b ts s args) K) :
    ∃ m : Sem Value, (∀ cs, builtin b ts ty cs cargs = (do pure (.value (← m)))) ∧ ∃ q, (b ≠ .append → q = true) ∧ DidG q E s a w L K (m.run P w) := by
  have two : ∀ {x y : AV}, args = [x, y] → ∃ cx cy, cargs = #[cx, cy] ∧ Rep E x cx [] ∧ Rep E y cy [] := by
    rintro x y rfl
    obtain ⟨cx, r1, l1, l2, e1, hl, h1, h2⟩ := ha.inv
    obtain ⟨cy, r2, l3, l4, rfl, hl2, h3, h4⟩ := h2.inv
    obtain ⟨rfl, rfl⟩ : l1 = [] ∧ l2 = [] := by simpa using hl.symm
    obtain ⟨rfl, rfl⟩ : l3 = [] ∧ l4 = [] := by simpa using hl2.symm
    cases h4
    exact ⟨cx, cy, array_of_toList e1, h1, h3⟩
  have one : ∀ {x : AV}, args = [x] → ∃ cx, cargs = #[cx] ∧ Rep E x cx [] := by
    rintro x rfl
    obtain ⟨cx, r1, l1, l2, e1, hl, h1, h2⟩ := ha.inv
    obtain ⟨rfl, rfl⟩ : l1 = [] ∧ l2 = [] := by simpa using hl.symm
    cases h2
    exact ⟨cx, array_of_toList e1, h1⟩
  unfold builtinO at h
  split at h
  · rename_i x
    obtain ⟨cx, rfl, hx⟩ := one rfl
    obtain ⟨t, ht, hA⟩ := outW_okO h
    unfold one1 at ht
    split at ht
    · rename_i t' hts
      injection ht with ht
      subst ht
      obtain rfl := array_of_toList hts
      exact ⟨_, fun _ => rfl, true, fun _ => rfl, len_did hR hx hA⟩
    · cases ht
  · rename_i x y
    obtain ⟨cx, cy, rfl, hx, hy⟩ := two rfl
    obtain ⟨t, ht, hA⟩ := outW_okO h
    obtain ⟨e, he, hB⟩ := outW_okO hA
    unfold two2 at ht
    split at ht
    · rename_i t' u hts
      split at ht
      · rename_i heq
        subst heq
        injection ht with ht
        subst ht
        obtain rfl := array_of_toList hts
        have hk : kindT P t' = .slice e := by
          unfold elemK at he
          split at he
          · rename_i e' hk; injection he with he; subst he; exact hk
          · cases he
        exact ⟨_, fun _ => rfl, false, fun h => absurd rfl h, append_did hR hk hx hy hB⟩
      · cases ht
    · cases ht
  · rename_i x y
    obtain ⟨cx, cy, rfl, hx, hy⟩ := two rfl
    have := minmax_did (P := P) (mx := false) (ts := ts) (ty := ty) hR hx hy h
    exact ⟨_, fun _ => rfl, true, fun _ => rfl, by simpa using this⟩
  · rename_i x y
    obtain ⟨cx, cy, rfl, hx, hy⟩ := two rfl
    have := minmax_did (P := P) (mx := true) (ts := ts) (ty := ty) hR hx hy h
    exact ⟨_, fun _ => rfl, true, fun _ => rfl, by simpa using this⟩
  · exact h.elim

theorem nilCheck_shape {x : AV} {cx : Value} (hx : Rep E x cx []) (h : outW Sp (nilCheckO s x) K) : (∃ p, cx = .pointer (some p)) ∨ ∃ f b c, cx = .func (.func f) b c := by
  unfold nilCheckO at h
  split at h
  · cases hx; exact .inl ⟨_, rfl⟩
  · cases hx with | elp hg ho hn hv h => exact .inl hv
  · cases hx; exact .inl ⟨_, rfl⟩
  · cases hx; exact .inr ⟨_, _, _, rfl⟩
  · exact h.elim

theorem op_did (hSp : ∀ f t r o, Sp f t r o → Spec P f t r o) (hR : R E s a w L) (h : outW Sp (opO P s o.type o.op) K) : OpR P E s a w L K o := by
  unfold opO at h
  split at h
  · -- move
    rename_i x ho
    obtain ⟨v, hv, hA⟩ := outW_okO h
    exact val_t (pure (a.eval x)) (fun cv w' hr => by simp only [execOp, ho]; simp only [Sem.run_pure, Result.ok.injEq] at hr ⊢; obtain ⟨rfl, rfl⟩ := hr; exact ⟨rfl, rfl⟩) (unf_did hR ((hR.eval hv).nilT _) hA)
  · -- assign
    rename_i x ho
    obtain ⟨v, hv, hA⟩ := outW_okO h
    exact val_t (pure (a.eval x)) (fun cv w' hr => by simp only [execOp, ho]; simp only [Sem.run_pure, Result.ok.injEq] at hr ⊢; obtain ⟨rfl, rfl⟩ := hr; exact ⟨rfl, rfl⟩) (unf_did hR ((hR.eval hv).nilT _) hA)
  · -- pick
    rename_i c x y ho
    obtain ⟨vc, hc, hA⟩ := outW_okO h
    obtain ⟨vx, hx, hB⟩ := outW_okO hA
    obtain ⟨vy, hy, hC⟩ := outW_okO hB
    refine val_t (do pure (if ← asBool (a.eval c) then a.eval x else a.eval y)) (fun cv w' hr => ?_) (pick_did hR (hR.eval hc) (hR.eval hx) (hR.eval hy) hC)
    simp only [execOp, ho]
    have := lift_v hr
    simpa [Sem.run_bind] using this
  · -- alloc
    rename_i e ho
    exact val_f _ (by rw [ho]; rfl) (fun cv w' hr => by simp only [execOp, ho]; exact lift_v hr) (alloc_did hR e h)
  · -- box
    rename_i t x ho
    obtain ⟨v, hv, hA⟩ := outW_okO h
    exact val_f _ (by rw [ho]; rfl) (fun cv w' hr => by simp only [execOp, ho]; exact lift_v hr) (box_did hR t (hR.eval hv) hA)
  · -- build
    rename_i t parts ho
    obtain ⟨fs, hfs, hA⟩ := outW_okO h
    obtain ⟨z, hz, hB⟩ := outW_okO hA
    obtain ⟨cs, hcs, hC⟩ := outW_okO hB
    obtain ⟨hfo, hD⟩ := hC
    have := build_did hR hfs hz hfo hcs hD
    rw [parts_toArray] at this
    exact val_t _ (fun cv w' hr => by simp only [execOp, ho]; exact lift_v hr) this
  · -- load
    rename_i t p ho
    obtain ⟨v, hv, hA⟩ := outW_okO h
    exact val_t _ (fun cv w' hr => by simp only [execOp, ho]; exact lift_v hr) (load_did hR (hR.eval hv) hA)
  · -- store
    rename_i t p x ho
    obtain ⟨vp, hp, hA⟩ := outW_okO h
    obtain ⟨v, hv, hB⟩ := outW_okO hA
    obtain ⟨hpos, hC⟩ := hB
    obtain ⟨s', E', w', L', hK, hR', hm, hr⟩ := store_did hR hpos (hR.eval hp) ((hR.eval hv).nilT t) hC
    exact .skip (by rw [ho]; rfl) hK hR' hm (by simp only [execOp, ho]; rw [Sem.run_bind, hr]; rfl)
  · -- nilCheck
    rename_i x ho
    obtain ⟨v, hv, hA⟩ := outW_okO h
    obtain ⟨hd, _⟩ := nilCheck_did (P := P) hR (hR.eval hv) hA
    have hshape := nilCheck_shape (hR.eval hv) hA
    refine val_t (pure (a.eval x)) (fun cv w' hr => ?_) hd
    simp only [Sem.run_pure, Result.ok.injEq] at hr
    obtain ⟨rfl, rfl⟩ := hr
    simp only [execOp, ho]
    rcases hshape with ⟨p, hp⟩ | ⟨f, b1, b2, hp⟩ <;> rw [hp] <;> rfl
  · -- binOp
    rename_i op t x y pos ho
    obtain ⟨vx, hx, hA⟩ := outW_okO h
    obtain ⟨vy, hy, hB⟩ := outW_okO hA
    exact val_t _ (fun cv w' hr => by simp only [execOp, ho]; exact lift_v hr) (bin_did (ox := x) (oy := y) hR (hR.eval hx) (hR.eval hy) hB)
  · rename_i op pos x ho
    obtain ⟨v, hv, hA⟩ := outW_okO h
    exact val_t _ (fun cv w' hr => by simp only [execOp, ho]; exact lift_v hr) (un_did hR (hR.eval hv) hA)
  · rename_i src dst x ho
    obtain ⟨v, hv, hA⟩ := outW_okO h
    exact val_t _ (fun cv w' hr => by simp only [execOp, ho]; exact lift_v hr) (conv_did hR (hR.eval hv) hA)
  · -- makeFunc
    rename_i f first caps ho
    obtain ⟨vs, hvs, hA⟩ := outW_okO h
    obtain ⟨hfirst, hB⟩ := hA
    have hfe : first = #[] := array_of_toList hfirst
    subst hfe
    have hrep : Rep E (.clo f vs) (.func (.func f) #[] (caps.map a.eval)) [] := .clo (by rw [map_toArray]; exact opnds_eval hR hvs)
    exact val_t (Instr.makeFunc (.func f) #[] (caps.map a.eval)) (fun cv w' hr => by simp only [execOp, ho]; exact lift_v (by simpa using hr)) (did_ok hR hB hrep)
  · -- fieldAddr
    rename_i t x f ho
    obtain ⟨v, hv, hA⟩ := outW_okO h
    exact val_t _ (fun cv w' hr => by simp only [execOp, ho]; exact lift_v hr) (fieldAddr_did hR (hR.eval hv) hA)
  · obtain ⟨v, hv, hA⟩ := outW_okO h
    exact hA.elim
  · rename_i t x i ho
    obtain ⟨vx, hx, hA⟩ := outW_okO h
    obtain ⟨vi, hi, hB⟩ := outW_okO hA
    exact val_t _ (fun cv w' hr => by simp only [execOp, ho]; exact lift_v hr) (idxAddr_did hR (hR.eval hx) (hR.eval hi) hB)
  · rename_i t x i ho
    obtain ⟨vx, hx, hA⟩ := outW_okO h
    obtain ⟨vi, hi, hB⟩ := outW_okO hA
    exact val_t _ (fun cv w' hr => by simp only [execOp, ho]; exact lift_v hr) (index_did hR (hR.eval hx) (hR.eval hi) hB)
  · rename_i t x lo hi mx ho
    obtain ⟨vx, hx, hA⟩ := outW_okO h
    exact val_t _ (fun cv w' hr => by simp only [execOp, ho]; exact lift_v hr) (slice_did hR (hR.eval hx) hA)
  · rename_i x i ho
    obtain ⟨v, hv, hA⟩ := outW_okO h
    exact val_t _ (fun cv w' hr => by simp only [execOp, ho]; exact lift_v hr) (extract_did hR (hR.eval hv) hA)
  · -- buildSlice
    rename_i t n parts ho
    obtain ⟨fs, hfs, hA⟩ := outW_okO h
    obtain ⟨e, he, hB⟩ := outW_okO hA
    have hk : kindT P t = .slice e := by
      unfold elemK at he
      split at he
      · rename_i e' hk; injection he with he; subst he; exact hk
      · cases he
    have := buildSlice_did hR hk hfs hB
    rw [parts_toArray] at this
    exact val_f _ (by rw [ho]; rfl) (fun cv w' hr => by simp only [execOp, ho]; exact lift_v hr) this
  · -- makeMap
    rename_i t x ho
    obtain ⟨kk, hkk, hA⟩ := outW_okO h
    obtain ⟨v, hv, hB⟩ := outW_okO hA
    obtain ⟨n, hn, hC⟩ := outW_okO hB
    exact val_f _ (by rw [ho]; rfl) (fun cv w' hr => by simp only [execOp, ho]; exact lift_v hr) (makeMap_did hR (makeMap_runS hkk (hR.eval hv) hn) hC)
  · rename_i t ho
    exact val_f _ (by rw [ho]; rfl) (fun cv w' hr => by simp only [execOp, ho]; exact lift_v hr) (makeMap_did hR (makeMap_run (t := t)) h)
  · -- mapUpdate
    rename_i t m k x ho
    obtain ⟨vm, hm, hA⟩ := outW_okO h
    obtain ⟨vk, hk, hB⟩ := outW_okO hA
    obtain ⟨v, hv, hC⟩ := outW_okO hB
    obtain ⟨kk, hkk, hD⟩ := outW_okO hC
    obtain ⟨lk, hlk, hF⟩ := outW_okO hD
    obtain ⟨s', E', w', L', hK, hR', hm', hr⟩ := mapSet_did hR (hR.eval hm) (hR.eval hk) ((hR.eval hv).nilT kk.2) hkk hlk hF
    exact .skip (by rw [ho]; rfl) hK hR' hm' (by simp only [execOp, ho]; rw [Sem.run_bind, hr]; rfl)
  · -- lookup
    rename_i t m k ok ho
    obtain ⟨vm, hm, hA⟩ := outW_okO h
    obtain ⟨vk, hk, hB⟩ := outW_okO hA
    obtain ⟨r, hr, hC⟩ := outW_okO hB
    obtain ⟨kk, hkk, hD⟩ := outW_okO hC
    obtain ⟨lk, hlk, hF⟩ := outW_okO hD
    obtain ⟨v, hv, hz, hG⟩ := outW_okO hF
    exact val_t _ (fun cv w' hr => by simp only [execOp, ho]; exact lift_v hr) (lookup_did hR (hR.eval hm) (hR.eval hk) hr hkk hlk hv hz.1 hG)
  · -- builtin
    rename_i b args argTypes ho
    obtain ⟨vs, hvs, hA⟩ := outW_okO h
    obtain ⟨m, hm, q, hq, hd⟩ := builtin_did (ty := o.type) hR (cargs := args.map a.eval) (by rw [map_toArray]; exact opnds_eval hR hvs) hA
    refine .value m (fun cv w' hr => ?_) (fun hs => hq (by rintro rfl; rw [ho] at hs; exact absurd hs (by simp [stillO]))) hd
    simp only [execOp, ho, resolve, Sem.run_bind, Sem.run_pure, Result.andThen_ok, invoke]
    rw [hm]
    exact lift_v hr
  · -- call
    rename_i f args argTypes ho
    obtain ⟨vf, hf, hA⟩ := outW_okO h
    obtain ⟨vs, hvs, hB⟩ := outW_okO hA
    have hd := call_did hSp hR (hR.eval hf) (cvs := args.map a.eval) (by rw [map_toArray]; exact opndsT_eval hR hvs) hB
    refine .call (by rw [ho]; rfl) ?_
    simp only [execOp, ho, resolve]
    exact hd
  · exact h.elim

theorem op_wp (hSp : ∀ f t r o, Sp f t r o → Spec P f t r o) (hR : R E s a w L) (h0 : Low E0 w0) (hS : Move E0 w0 L0 E w L) (h : outW Sp (opO P s o.type o.op) K)
    (hn : ∀ s' v a' w', K s' v → Rel E0 w0 L0 (s'.put o.dst v) a' w' → next a' w') : o.wp P a w next Q := by
  unfold Oper.wp
  cases op_did hSp hR h with
  | value m hrun hq hd =>
    obtain ⟨s', v, E', w', L', cv, hK, hR', hm, hv, hr, _⟩ := hd
    rw [hrun cv w' hr, Oper.upon_value]
    exact hn s' v _ _ hK ⟨E', L', hR'.put hv, hS.trans hm h0 hS.own.off⟩
  | skip hs hK hR' hm hrun =>
    rw [hrun, Oper.upon_skip]
    exact hn _ .undef _ _ hK ⟨_, _, hR'.put (.undef _), hS.trans hm h0 hS.own.off⟩
  | call hs hd =>
    obtain ⟨g, cargs, hrun, hcalls⟩ := hd
    rw [hrun, Oper.upon_enter]
    refine hcalls.mono fun e w' he => ?_
    obtain ⟨cv, rfl, s', v, E', L', hK, hR', hm, hv⟩ := he
    exact hn s' v _ _ hK ⟨E', L', hR'.put hv, hS.trans hm h0 hS.own.off⟩

/-- An operation that reads alone, ahead of those that write. -/
theorem op_still (hSp : ∀ f t r o, Sp f t r o → Spec P f t r o) (hst : stillO o.op = true) (hR : R E s a w L) (h0 : Low E0 w0) (hS : Move E0 w0 L0 E w L) (h : outW Sp (opO P s o.type o.op) K) {next : Act → Prop}
    (hn : ∀ s' v a', K s' v → Rel E0 w0 L0 (s'.put o.dst v) a' w → next a') : o.still P a w next := by
  cases op_did hSp hR h with
  | value m hrun hq hd =>
    obtain ⟨s', v, E', w', L', cv, hK, hR', hm, hv, hr, hw⟩ := hd
    obtain rfl := hw (hq hst)
    unfold Oper.still
    rw [hrun cv _ hr, Oper.stillUpon_value]
    exact hn s' v _ hK ⟨E', L', hR'.put hv, hS.trans hm h0 hS.own.off⟩
  | skip hs _ _ _ _ => rw [hst] at hs; cases hs
  | call hs _ => rw [hst] at hs; cases hs

/-- An operation that reads alone, in a region that draws. -/
theorem op_quiet (hSp : ∀ f t r o, Sp f t r o → Spec P f t r o) (hst : stillO o.op = true) (hR : R E s a w L) (h0 : Low E0 w0) (hS : Move E0 w0 L0 E w L) (h : outW Sp (opO P s o.type o.op) K) {next : Act → Prop}
    (hn : ∀ s' v a', K s' v → Rel E0 w0 L0 (s'.put o.dst v) a' w → next a') : o.quiet P a (fun w' => w' = w) next := by
  cases op_did hSp hR h with
  | value m hrun hq hd =>
    obtain ⟨s', v, E', w', L', cv, hK, hR', hm, hv, hr, hw⟩ := hd
    obtain rfl := hw (hq hst)
    refine ⟨cv, ?_, hn s' v _ hK ⟨E', L', hR'.put hv, hS.trans hm h0 hS.own.off⟩⟩
    rintro _ rfl
    unfold Oper.quietAt
    rw [hrun cv _ hr]
    exact ⟨rfl, rfl⟩
  | skip hs _ _ _ _ => rw [hst] at hs; cases hs
  | call hs _ => rw [hst] at hs; cases hs
end Go.Ev

/-
What may be forgotten, and named otherwise.
-/
set_option linter.unusedVariables false
set_option linter.unusedSimpArgs false
namespace Go.Ev
variable {P : Program} {E : Env} {s : S} {a : Act} {w : World} {L : List Nat}
variable {E0 : Env} {w0 : World} {L0 : List Nat}

theorem sw_sw (i j k : Nat) : sw i j (sw i j k) = k := by unfold sw; repeat' split <;> simp_all
theorem renL_len (i j : Nat) : ∀ cs, (renL i j cs).length = cs.length
  | [] => rfl
  | c :: cs => by simp [renL, renL_len i j cs]
theorem renL_append (i j : Nat) : ∀ (as bs : List AV), renL i j (as ++ bs) = renL i j as ++ renL i j bs
  | [], _ => rfl
  | a :: as, bs => by simp [renL, renL_append i j as bs]
theorem cellsOf_ren (i j : Nat) (e : AV) : cellsOf (ren i j e) = renL i j (cellsOf e) := by cases e <;> simp [ren, cellsOf, renL]
theorem flat_ren (i j : Nat) : ∀ (els : List AV), flat (renL i j els) = renL i j (flat els)
  | [] => rfl
  | e :: els => by
    have := flat_ren i j els
    unfold flat at *
    simp only [renL, List.flatMap_cons, renL_append, cellsOf_ren, this]
theorem C1_ren (i j : Nat) (e : AV) : C1 (ren i j e) = C1 e := by cases e <;> simp [ren, C1]
theorem allC1_ren (i j : Nat) : ∀ (cs : List AV), allC1 (renL i j cs) = allC1 cs
  | [] => rfl
  | c :: cs => by simp [renL, allC1, allC1_ren i j cs, C1_ren]
theorem renL_mem {i j : Nat} : ∀ {els : List AV} {v : AV}, v ∈ renL i j els → ∃ e ∈ els, v = ren i j e
  | [], _, h => by cases h
  | e :: els, v, h => by
    simp only [renL, List.mem_cons] at h
    rcases h with rfl | h
    · exact ⟨e, by simp, rfl⟩
    · obtain ⟨x, hx, rfl⟩ := renL_mem h; exact ⟨x, by simp [hx], rfl⟩
theorem okE_ren {i j sz : Nat} {els : List AV} (h : ∀ e ∈ els, okE sz e) : ∀ e ∈ renL i j els, okE sz e := by
  intro e he
  obtain ⟨x, hx, rfl⟩ := renL_mem he
  unfold okE
  rw [cellsOf_ren, renL_len, allC1_ren]
  exact h x hx

def swE (i j : Nat) (E : Env) : Env := { E with g := fun k => E.g (sw i j k) }
theorem swE_g {i j id : Nat} {x : Loc} (h : E.g id = some x) : (swE i j E).g (sw i j id) = some x := by
  show E.g (sw i j (sw i j id)) = some x
  rw [sw_sw]; exact h

theorem Rep.ren {i j : Nat} : (∀ {a : AV} {v : Value} {l : List Nat}, Rep E a v l → Rep (swE i j E) (Ev.ren i j a) v l) := by
  intro a v l h
  refine @Rep.rec E (fun a v l _ => Rep (swE i j E) (Ev.ren i j a) v l) (fun as vs l _ => RepL (swE i j E) (renL i j as) vs l)
    (fun b => .bool b) (fun k n => .int k n) (fun s h => .str s h) .nilp .nilf .nili .nilm (fun v => .undef v)
    ?_ ?_ ?_ ?_ ?_ ?_ ?_ (fun fl sz a cap => .lst0 fl sz a cap) ?_ (fun sz => .olst0 sz) ?_ ?_ ?_ ?_ ?_ .nil ?_ a v l h
  · intro id j l b h1 h2 h3; exact .loc (swE_g h1) h2 h3
  · intro id n i j l v h1 h2 h3 hv h4; exact .elp (swE_g h1) h2 h3 hv h4
  · intro id n i j l v h1 h2 h3 hv h4; exact .row (swE_g h1) h2 h3 hv h4
  · intro id n i j l v h1 h2 h3 hv h4; exact .rowc (swE_g h1) h2 h3 hv h4
  · intro id l b h1 h2 h3; exact .mp (swE_g h1) h2 h3
  · intro cs b o vs h1 h2 _ ih; exact .fz h1 h2 ih
  · intro e j b cells ty fr l h1 h2 hc _ ih; exact .optr h1 h2 (by rw [cellsOf_ren, allC1_ren]; exact hc) (by rw [cellsOf_ren]; exact ih)
  · intro fl sz els b o cap vs h1 h2 h3 h4 h5 h6 _ ih
    have hl := renL_len i j els
    have := @Rep.lst (swE i j E) fl sz (renL i j els) b o cap vs (by intro h; rw [h] at hl; exact h1 (List.eq_nil_of_length_eq_zero (by simpa using hl.symm))) (by omega) (by omega) h4 (okE_ren h5) h6 (by rw [flat_ren]; exact ih)
    rw [hl] at this
    exact this
  · intro sz els b cap cells ty fr l h1 h2 h3 h4 h5 h6 _ ih
    have hl := renL_len i j els
    have := @Rep.olst (swE i j E) sz (renL i j els) b cap cells ty fr l h1 h2 h3 (by omega) (by omega) (okE_ren h6) (by rw [flat_ren, hl]; exact ih)
    rw [hl] at this
    exact this
  · intro cs vs l _ ih; exact .agg ih
  · intro cs vs l _ ih; exact .tup ih
  · intro f cs vs l _ ih; exact .clo ih
  · intro ks vs es clock b hb _ _ ih1 ih2; exact .omp hb ih1 ih2
  · intro a v as vs l m _ _ ih1 ih2; exact .cons ih1 ih2
theorem RepL.ren {i j : Nat} : ∀ {as : List AV} {vs : List Value} {l : List Nat}, RepL E as vs l → RepL (swE i j E) (renL i j as) vs l
  | _, _, _, .nil => .nil
  | _, _, _, .cons h t => .cons h.ren t.ren

theorem BlkRep.ren {i j id : Nat} {blk : Blk} {l : List Nat} (h : BlkRep E id blk l) : BlkRep (swE i j E) (sw i j id) (renB i j blk) l := by
  cases h with
  | obj h0 ho hx hb hf h1 h => exact .obj (swE_g h0) ho hx hb hf (by rw [cellsOf_ren, allC1_ren]; exact h1) (by rw [cellsOf_ren]; exact h.ren)
  | nil h0 ho hx hc hn hz => exact .nil (swE_g h0) ho hx hc hn hz
  | row h0 ho hx hn hs hb hf hc hl hm hz h => exact .row (swE_g h0) ho hx (by rw [renL_len]; exact hn) hs hb hf hc (by rw [renL_len]; exact hl) (by rw [renL_len]; exact hm) (okE_ren hz) (by rw [flat_ren, renL_len]; exact h.ren)
  | frz h0 ho hx hn hs hb hst hl hm hz h => exact .frz (swE_g h0) ho hx (by rw [renL_len]; exact hn) hs hb hst (by rw [renL_len]; exact hl) (by rw [renL_len]; exact hm) (okE_ren hz) (by rw [flat_ren, renL_len]; exact h.ren)
  | map h0 ho hx hb hk hv => exact .map (swE_g h0) ho hx hb hk.ren hv.ren

theorem Blks.ren {i j : Nat} : ∀ {b : Mem} {L : List Nat}, Blks E b L → Blks (swE i j E) (renM i j b) L
  | _, _, .nil => .nil
  | _, _, .cons h t => .cons h.ren t.ren

theorem look_renT {i j k : Nat} {v : AV} : ∀ {t : List (Nat × AV)}, look k (renT i j t) = some v → ∃ u, look k t = some u ∧ v = ren i j u
  | [], h => by simp [renT, look] at h
  | (k', u) :: r, h => by
    simp only [renT, look] at h ⊢
    by_cases hk : k' = k
    · rw [if_pos hk] at h ⊢; injection h with h; exact ⟨u, rfl, h.symm⟩
    · rw [if_neg hk] at h ⊢; exact look_renT h
theorem keys_renM {i j : Nat} : ∀ {b : Mem}, (renM i j b).map (·.1) = (b.map (·.1)).map (sw i j)
  | [] => rfl
  | (k, u) :: r => by simp [renM, keys_renM (b := r)]

theorem nodup_map_sw {i j : Nat} : ∀ {l : List Nat}, l.Nodup → (l.map (sw i j)).Nodup
  | [], _ => List.nodup_nil
  | k :: l, h => by
    simp only [List.nodup_cons] at h
    simp only [List.map_cons, List.nodup_cons]
    refine ⟨fun hm => ?_, nodup_map_sw h.2⟩
    obtain ⟨x, hx, e⟩ := List.mem_map.1 hm
    have : x = k := by have := congrArg (sw i j) e; rwa [sw_sw, sw_sw] at this
    exact h.1 (this ▸ hx)

theorem Blks.sub {b b' : Mem} (hs : b'.Sublist b) : ∀ {L : List Nat}, Blks E b L → ∃ L', Blks E b' L' ∧ L'.Sublist L := by
  induction hs with
  | slnil => intro L h; cases h; exact ⟨[], .nil, List.Sublist.refl _⟩
  | cons x _ ih =>
    intro L h
    cases h with
    | cons h t =>
      obtain ⟨L', h1, h2⟩ := ih t
      exact ⟨L', h1, h2.trans (List.sublist_append_right _ _)⟩
  | cons_cons x _ ih =>
    intro L h
    cases h with
    | cons h t =>
      obtain ⟨L', h1, h2⟩ := ih t
      exact ⟨_, .cons h h1, List.Sublist.append (List.Sublist.refl _) h2⟩

theorem Blks.perm {b b' : Mem} (hp : b'.Perm b) : ∀ {L : List Nat}, Blks E b L → ∃ L', Blks E b' L' ∧ L'.Perm L := by
  have key : ∀ {b b' : Mem}, b.Perm b' → ∀ {L : List Nat}, Blks E b L → ∃ L', Blks E b' L' ∧ L'.Perm L := by
    intro b b' hp
    induction hp with
    | nil => intro L h; exact ⟨L, h, .refl _⟩
    | cons x _ ih =>
      intro L h
      cases h with
      | cons h t =>
        obtain ⟨L', h1, h2⟩ := ih t
        exact ⟨_, .cons h h1, h2.append_left _⟩
    | swap x y l =>
      intro L h
      cases h with
      | @cons id1 blk1 l1 m1 r1 h t =>
        cases t with
        | @cons id2 blk2 l2 m2 r2 h' t =>
          refine ⟨_, .cons h' (.cons h t), ?_⟩
          rw [← List.append_assoc, ← List.append_assoc]
          exact List.Perm.append_right _ List.perm_append_comm
    | trans _ _ ih1 ih2 =>
      intro L h
      obtain ⟨L1, h1, p1⟩ := ih1 h
      obtain ⟨L2, h2, p2⟩ := ih2 h1
      exact ⟨L2, h2, p2.trans p1⟩
  exact fun {L} h => key hp.symm h

theorem Own.sub' {L L' : List Nat} (h : Own E L) (hn : L'.Nodup) (hs : ∀ b ∈ L', b ∈ L) : Own E L' := ⟨hn, fun b hb => h.lt b (hs b hb), fun b hb => h.off b (hs b hb), h.stlt, h.sub⟩
theorem Move.less {L L' : List Nat} (h : Move E0 w0 L0 E w L) (hn : L'.Nodup) (hs : ∀ b ∈ L', b ∈ L) : Move E0 w0 L0 E w L' :=
  ⟨h.ext, h.heap, h.size, h.keep, h.stN, fun b hb => h.new b (hs b hb), h.own.sub' hn hs, h.os, h.tape, h.output, h.stF⟩

theorem Weak.rel {n0 : Nat} {s s' : S} (h : Weak n0 s s') (hg0 : ∀ id x, E0.g id = some x → id < n0) : Rel E0 w0 L0 s a w → Rel E0 w0 L0 s' a w := by
  induction h with
  | @drop s s' hm ht hb hn =>
    rintro ⟨E, L, hR, hM⟩
    obtain ⟨L', h1, h2⟩ := hR.blk.sub hb
    have hnd := h2.nodup hR.own.nodup
    have hs := fun b hb => h2.subset (a := b) hb
    exact ⟨E, L', ⟨hR.heap, hm.trans hR.m, fun k v hk => (ht k v hk).elim (fun e => e ▸ .undef _) (hR.tmp k v), h1, (hb.map _).nodup hR.keys, hR.own.sub' hnd hs, fun id x hx => Nat.lt_of_lt_of_le (hR.gn id x hx) hn, hR.defers⟩, hM.less hnd hs⟩
  | @perm s b hb =>
    rintro ⟨E, L, hR, hM⟩
    obtain ⟨L', h1, h2⟩ := hR.blk.perm hb
    have hnd := h2.nodup_iff.2 hR.own.nodup
    have hs := fun b hb => (h2.mem_iff (a := b)).1 hb
    exact ⟨E, L', ⟨hR.heap, hR.m, hR.tmp, h1, ((hb.map _).nodup_iff).2 hR.keys, hR.own.sub' hnd hs, hR.gn, hR.defers⟩, hM.less hnd hs⟩
  | @swap s i j hi hj hi' hj' =>
    rintro ⟨E, L, hR, hM⟩
    have hown : Own (swE i j E) L := ⟨hR.own.nodup, hR.own.lt, hR.own.off, hR.own.stlt, hR.own.sub⟩
    refine ⟨swE i j E, L, ⟨hR.heap, hR.m, fun k v hk => ?_, hR.blk.ren, ?_, hown, fun id x hx => ?_, hR.defers⟩, ⟨⟨hM.ext.heap, hM.ext.st, hM.ext.sub, fun id x hx => ?_⟩, hM.heap, hM.size, hM.keep, hM.stN, hM.new, hown, hM.os, hM.tape, hM.output, hM.stF⟩⟩
    · obtain ⟨u, hu, rfl⟩ := look_renT hk
      exact (hR.tmp k u hu).ren
    · show ((renM i j s.b).map (·.1)).Nodup
      rw [keys_renM]
      exact nodup_map_sw hR.keys
    · have := hR.gn _ _ hx
      show id < s.n
      unfold sw at this
      split at this
      · omega
      · split at this
        · omega
        · exact this
    · have h1 := hg0 id x hx
      have h2 : sw i j id = id := by unfold sw; rw [if_neg (by omega), if_neg (by omega)]
      obtain ⟨x', hx', h⟩ := hM.ext.g id x hx
      exact ⟨x', by show E.g (sw i j id) = _; rw [h2]; exact hx', h⟩
  | trans _ _ ih1 ih2 => exact fun h => ih2 (ih1 h)
end Go.Ev

/-
Regions, code, loops; from a body's evaluation to a specification.
-/
set_option linter.unusedVariables false
set_option linter.unusedSimpArgs false
namespace Go.Ev
variable {Sp : FuncId → List AV → AV → List AV → Prop} {P : Program} {E : Env} {s : S} {a : Act} {w : World} {L : List Nat}
variable {E0 : Env} {w0 : World} {L0 : List Nat}

def post (E0 : Env) (w0 : World) (L0 : List Nat) (Q : Exit → S → Prop) (e : Exit) (a : Act) (w : World) : Prop := ∃ s, Q e s ∧ Rel E0 w0 L0 s a w

theorem getD_bool {ts : Array Value} {d : Nat} {b : Bool} (h : Rep E (.bool b) (ts.getD d undef) []) : ts[d]? = some (.bool b) := by
  cases hd : ts[d]? with
  | none =>
    have : ts.getD d undef = undef := by simp [Array.getD_eq_getD_getElem?, hd]
    rw [this] at h
    cases h
  | some v =>
    have : ts.getD d undef = v := by simp [Array.getD_eq_getD_getElem?, hd]
    rw [this] at h
    cases h
    rfl

theorem guard_is (hR : R E s a w L) {ops : Array Oper} {o : Oper} {g : Nat × Bool} {b : Bool} (hg : o.guard = some g) (hb : guardO ops.toList s g.1 g.2 = some b) : Region.wanted o (yielded ops a.tmps) = b := by
  unfold guardO at hb
  obtain ⟨v, hv, hb⟩ := Option.bind_eq_some_iff.1 hb
  obtain ⟨d, hd, hv⟩ := Option.bind_eq_some_iff.1 hv
  have hd' : (ops[g.1]?).bind (·.dst) = some d := by rw [← hd]; simp
  have hrep := hR.tmp _ _ hv
  unfold guardOf at hb
  split at hb
  · rename_i x _
    injection hb with hb
    have hy : yielded ops a.tmps g.1 = some x := by
      have := getD_bool hrep
      unfold yielded
      rw [hd']
      simp [this]
    subst hb
    simp only [Region.wanted, hg, hy]
    cases x <;> cases g.2 <;> rfl
  · injection hb with hb
    subst hb
    have hy : yielded ops a.tmps g.1 = none := by
      unfold yielded
      rw [hd']
      cases hdd : a.tmps[d]? with
      | none => simp [hdd]
      | some v =>
        have : a.tmps.getD d undef = v := by simp [Array.getD_eq_getD_getElem?, hdd]
        rw [this] at hrep
        cases hrep
        simp [hdd]
    simp only [Region.wanted, hg, hy]
    rfl
  · cases hb

theorem ops_wp (hSp : ∀ f t r o, Sp f t r o → Spec P f t r o) (h0 : Low E0 w0) {ops : Array Oper} {Q : Exit → Act → World → Prop} {K : S → Prop} (hK : ∀ s a w, K s → Rel E0 w0 L0 s a w → Q .normal a w) :
    ∀ (l : List Oper) (s : S) (a : Act) (w : World), opsW Sp P ops.toList l s K → Rel E0 w0 L0 s a w → wpList P ops Q l a w
  | [], s, a, w, h, hr => hK s a w h hr
  | o :: r, s, a, w, h, hr => by
    obtain ⟨E, L, hR, hM⟩ := hr
    unfold opsW at h
    have run : ∀ {K' : S → AV → Prop}, outW Sp (opO P s o.type o.op) K' → (∀ s' v, K' s' v → opsW Sp P ops.toList r (s'.put o.dst v) K) → o.wp P a w (wpList P ops Q r) Q := fun h1 h2 =>
      op_wp hSp hR h0 hM h1 fun s' v a' w' hk hr' => ops_wp hSp h0 hK r _ a' w' (h2 s' v hk) hr'
    unfold wpList
    split at h
    · rename_i hg
      have hw : Region.wanted o (yielded ops a.tmps) = true := by simp [Region.wanted, hg]
      rw [if_pos hw]
      exact .inl (run h fun _ _ h => h)
    · rename_i g hg
      obtain ⟨b, hb, h1, h2⟩ := h
      have hwe := guard_is hR hg hb
      cases b with
      | true =>
        rw [if_pos hwe]
        exact .inl (run (h1 rfl) fun _ _ h => h)
      | false =>
        rw [if_neg (by rw [hwe]; simp)]
        exact ops_wp hSp h0 hK r _ _ w (h2 rfl) ⟨E, L, hR.put (.tup (by simpa using RepL.nil)), hM⟩

theorem opsQ_wp (hSp : ∀ f t r o, Sp f t r o → Spec P f t r o) (h0 : Low E0 w0) {ops : Array Oper} {K : S → Prop} {w : World} :
    ∀ (l : List Oper) (s : S) (a : Act), (∀ o ∈ l, stillO o.op = true) → opsW Sp P ops.toList l s K → Rel E0 w0 L0 s a w → wpQuiet P ops (fun w' => w' = w) (fun a' => ∃ s', K s' ∧ Rel E0 w0 L0 s' a' w) l a
  | [], s, a, _, h, hr => ⟨s, h, hr⟩
  | o :: r, s, a, hst, h, hr => by
    have hst' : ∀ o ∈ r, stillO o.op = true := fun o ho => hst o (by simp [ho])
    obtain ⟨E, L, hR, hM⟩ := hr
    unfold opsW at h
    have run : ∀ {K' : S → AV → Prop}, outW Sp (opO P s o.type o.op) K' → (∀ s' v, K' s' v → opsW Sp P ops.toList r (s'.put o.dst v) K) → o.quiet P a (fun w' => w' = w) (wpQuiet P ops (fun w' => w' = w) (fun a' => ∃ s', K s' ∧ Rel E0 w0 L0 s' a' w) r) := fun h1 h2 =>
      op_quiet hSp (hst o (by simp)) hR h0 hM h1 fun s' v a' hk hr' => opsQ_wp hSp h0 r _ a' hst' (h2 s' v hk) hr'
    unfold wpQuiet
    split at h
    · rename_i hg
      have hw : Region.wanted o (yielded ops a.tmps) = true := by simp [Region.wanted, hg]
      rw [if_pos hw]
      exact run h fun _ _ h => h
    · rename_i g hg
      obtain ⟨b, hb, h1, h2⟩ := h
      have hwe := guard_is hR hg hb
      cases b with
      | true =>
        rw [if_pos hwe]
        exact run (h1 rfl) fun _ _ h => h
      | false =>
        rw [if_neg (by rw [hwe]; simp)]
        exact opsQ_wp hSp h0 r _ _ hst' (h2 rfl) ⟨E, L, hR.put (.tup (by simpa using RepL.nil)), hM⟩

theorem outW_mono' : ∀ {o : Out} {K K' : S → AV → Prop}, (∀ s v, K s v → K' s v) → outW Sp o K → outW Sp o K'
  | .ok s v, _, _, h, hk => h _ _ hk
  | .need p o, _, _, h, hk => ⟨hk.1, outW_mono' h hk.2⟩
  | .hyp p o, _, _, h, hk => fun hp => outW_mono' h (hk hp)
  | .call s g args, _, _, h, hk => by
    obtain ⟨gm, hk⟩ := hk
    refine ⟨gm, ?_⟩
    unfold callW okP at *
    split at hk
    · split at hk
      · obtain ⟨h1, h2, res, outs, h3, h4, h5⟩ := hk
        exact ⟨h1, h2, res, outs, h3, h4, h _ _ h5⟩
      · exact hk.elim
    · exact hk.elim
  | .fail, _, _, h, hk => hk.elim

theorem take_head {α : Type} (p : α → Bool) : ∀ (l : List α), l.take (l.takeWhile p).length = l.takeWhile p
  | [] => rfl
  | x :: l => by
    cases h : p x with
    | true => simp [List.takeWhile_cons, h, take_head p l]
    | false => simp [List.takeWhile_cons, h]
theorem mem_head {α : Type} (p : α → Bool) : ∀ (l : List α), ∀ x ∈ l.takeWhile p, p x = true
  | [], _, h => by cases h
  | y :: l, x, hx => by
    cases h : p y with
    | true =>
      simp only [List.takeWhile_cons, h, if_true, List.mem_cons] at hx
      rcases hx with rfl | hx
      · exact h
      · exact mem_head p l x hx
    | false => simp [List.takeWhile_cons, h] at hx

theorem opsS_wp (hSp : ∀ f t r o, Sp f t r o → Spec P f t r o) (h0 : Low E0 w0) {ops : Array Oper} {K : S → Prop} {w : World} :
    ∀ (l : List Oper) (s : S) (a : Act), (∀ o ∈ l, stillO o.op = true) → opsW Sp P ops.toList l s K → Rel E0 w0 L0 s a w → wpStill P ops w (fun a' => ∃ s', K s' ∧ Rel E0 w0 L0 s' a' w) l a
  | [], s, a, _, h, hr => ⟨s, h, hr⟩
  | o :: r, s, a, hst, h, hr => by
    have hst' : ∀ o ∈ r, stillO o.op = true := fun o ho => hst o (by simp [ho])
    obtain ⟨E, L, hR, hM⟩ := hr
    unfold opsW at h
    have run : ∀ {K' : S → AV → Prop}, outW Sp (opO P s o.type o.op) K' → (∀ s' v, K' s' v → opsW Sp P ops.toList r (s'.put o.dst v) K) → o.still P a w (wpStill P ops w (fun a' => ∃ s', K s' ∧ Rel E0 w0 L0 s' a' w) r) := fun h1 h2 =>
      op_still hSp (hst o (by simp)) hR h0 hM h1 fun s' v a' hk hr' => opsS_wp hSp h0 r _ a' hst' (h2 s' v hk) hr'
    unfold wpStill
    split at h
    · rename_i hg
      have hw : Region.wanted o (yielded ops a.tmps) = true := by simp [Region.wanted, hg]
      rw [if_pos hw]
      exact run h fun _ _ h => h
    · rename_i g hg
      obtain ⟨b, hb, h1, h2⟩ := h
      have hwe := guard_is hR hg hb
      cases b with
      | true =>
        rw [if_pos hwe]
        exact run (h1 rfl) fun _ _ h => h
      | false =>
        rw [if_neg (by rw [hwe]; simp)]
        exact opsS_wp hSp h0 r _ _ hst' (h2 rfl) ⟨E, L, hR.put (.tup (by simpa using RepL.nil)), hM⟩

theorem opsW_append {all : List Oper} {K : S → Prop} : ∀ {l1 l2 : List Oper} {s : S}, opsW Sp P all (l1 ++ l2) s K → opsW Sp P all l1 s (fun s' => opsW Sp P all l2 s' K)
  | [], l2, s, h => h
  | o :: r, l2, s, h => by
    rw [List.cons_append] at h
    cases hg : o.guard with
    | none =>
      simp only [opsW, hg] at h ⊢
      exact outW_mono' (fun s' v h => opsW_append h) h
    | some g =>
      simp only [opsW, hg] at h ⊢
      obtain ⟨b, h1, h2, h3⟩ := h
      exact ⟨b, h1, fun hb => outW_mono' (fun s' v h => opsW_append h) (h2 hb), fun hb => opsW_append (h3 hb)⟩

theorem Rel.drew {s : S} {a : Act} {w : World} (h : Rel E0 w0 L0 s a w) : Rel E0 w0 L0 s a { w with drawn := w.drawn + 1 } := by
  obtain ⟨E, L, hR, hM⟩ := h
  exact ⟨E, L, ⟨hR.heap, hR.m, hR.tmp, hR.blk, hR.keys, hR.own, hR.gn, hR.defers⟩, ⟨hM.ext, hM.heap, hM.size, hM.keep, hM.stN, hM.new, hM.own, hM.os, hM.tape, hM.output, hM.stF⟩⟩

theorem exists_least {p : Nat → Prop} (h : ∃ n, p n) : ∃ n, p n ∧ ∀ m, p m → n ≤ m := by
  obtain ⟨n, hn⟩ := h
  induction n using Nat.strongRecOn with
  | _ n ih =>
    by_cases hm : ∃ m, m < n ∧ p m
    · obtain ⟨m, h1, h2⟩ := hm; exact ih m h1 h2
    · exact ⟨n, hn, fun m hp => by
        by_cases hlt : m < n
        · exact absurd ⟨m, hlt, hp⟩ hm
        · omega⟩

theorem code_wp (hSp : ∀ f t r o, Sp f t r o → Spec P f t r o) (h0 : Low E0 w0) {n0 : Nat} (hg0 : ∀ id x, E0.g id = some x → id < n0) : ∀ (c : Code) (Q : Exit → S → Prop) (s : S) (a : Act) (w : World), codeW Sp P n0 c Q s → Rel E0 w0 L0 s a w → c.wp P (post E0 w0 L0 Q) a w := by
  intro c
  induction c with
  | skip => intro Q s a w h hr; exact wp_skip ⟨s, h, hr⟩
  | region id ops draw =>
    intro Q s a w h hr
    obtain ⟨hd, h⟩ := h
    cases draw with
    | false => exact wp_region_list (ops_wp hSp h0 (K := Q .normal) (fun s a w hk hr => ⟨s, hk, hr⟩) ops.toList s a w h hr)
    | true =>
      have hd := hd rfl
      simp only [drawOk, Bool.and_eq_true] at hd
      obtain ⟨hf, hd⟩ := hd
      split at hd
      · rename_i hall
        simp only [List.all_eq_true] at hall
        refine wp_region_quiet (C := fun w' => w' = { w with drawn := w.drawn + 1 }) hf hd rfl ?_
        have := opsQ_wp (K := Q .normal) hSp h0 ops.toList s a hall h hr.drew
        have mono : ∀ (l : List Oper) (a : Act) (w1 : World), wpQuiet P ops (fun w' => w' = w1) (fun a' => ∃ s', Q .normal s' ∧ Rel E0 w0 L0 s' a' w1) l a → wpQuiet P ops (fun w' => w' = w1) (fun a' => ∀ w', w' = w1 → post E0 w0 L0 Q .normal a' w') l a := by
          intro l
          induction l with
          | nil => rintro a w1 ⟨s', h1, h2⟩ w' rfl; exact ⟨s', h1, h2⟩
          | cons o r ih =>
            intro a w1 h
            unfold wpQuiet at h ⊢
            split
            · rename_i hw; rw [if_pos hw] at h; exact Oper.quiet_mono (fun a h => ih a w1 h) h
            · rename_i hw; rw [if_neg hw] at h; exact ih _ w1 h
        exact mono _ _ _ this
      · have hsplit : ops.toList = ops.toList.take (headLen ops) ++ ops.toList.drop (headLen ops) := (List.take_append_drop _ _).symm
        have hhead : ∀ o ∈ ops.toList.take (headLen ops), stillO o.op = true := by
          intro o ho
          have : ops.toList.take (headLen ops) = ops.toList.takeWhile fun o => stillO o.op := by
            exact take_head _ ops.toList
          rw [this] at ho
          exact mem_head _ _ o ho
        have harr : ops = ops.toList.toArray := by simp
        have h2 : opsW Sp P ops.toList (ops.toList.take (headLen ops) ++ ops.toList.drop (headLen ops)) s (Q .normal) := by rw [← hsplit]; exact h
        have key := opsS_wp hSp h0 (ops := ops) (w := { w with drawn := w.drawn + 1 }) (ops.toList.take (headLen ops)) s a hhead (opsW_append h2) hr.drew
        have mono : ∀ (l : List Oper) (a : Act) (w1 : World), wpStill P ops w1 (fun a' => ∃ s', opsW Sp P ops.toList (ops.toList.drop (headLen ops)) s' (Q .normal) ∧ Rel E0 w0 L0 s' a' w1) l a →
            wpStill P ops w1 (fun a' => wpList P ops (post E0 w0 L0 Q) (ops.toList.drop (headLen ops)) a' w1) l a := by
          intro l
          induction l with
          | nil => rintro a w1 ⟨s', h1, h2⟩; exact ops_wp hSp h0 (K := Q .normal) (fun s a w hk hr => ⟨s, hk, hr⟩) _ s' a w1 h1 h2
          | cons o r ih =>
            intro a w1 h
            unfold wpStill at h ⊢
            split
            · rename_i hw; rw [if_pos hw] at h; exact Oper.still_mono (fun a h => ih a w1 h) h
            · rename_i hw; rw [if_neg hw] at h; exact ih _ w1 h
        have := mono _ _ _ key
        rw [harr]
        refine wp_region_still_tail (headLen ops) hf (by simpa using hd) ?_
        simpa using this
  | seq x y ihx ihy =>
    intro Q s a w h hr
    refine wp_seq (wp_mono (ihx _ s a w h hr) fun e a w hq => ?_)
    obtain ⟨s', hq, hr'⟩ := hq
    cases e with
    | normal => exact ihy _ s' a w hq hr'
    | _ => exact ⟨s', hq, hr'⟩
  | cond c x y ihx ihy =>
    intro Q s a w h hr
    obtain ⟨b, hb, hor⟩ := h
    obtain ⟨v, hv, hb⟩ := Option.bind_eq_some_iff.1 hb
    have hvb : v = .bool b := by
      unfold boolOf at hb
      split at hb
      · injection hb with hb; rw [hb]
      · cases hb
    subst hvb
    obtain ⟨E, L, hR, hM⟩ := hr
    have he : a.eval c = .bool b := by
      have := hR.eval hv
      generalize a.eval c = x at this
      cases this; rfl
    rcases hor with ⟨h1, h2⟩ | ⟨s', h1, h2, h3⟩
    · exact wp_cond_split he (fun hb => ihx _ s a w (h1 hb) ⟨E, L, hR, hM⟩) fun hb => ihy _ s a w (h2 hb) ⟨E, L, hR, hM⟩
    · have join : ∀ e a w, post E0 w0 L0 (joinQ n0 s') e a w → post E0 w0 L0 Q e a w := by
        rintro e a w ⟨s1, ⟨rfl, hw⟩, hr1⟩
        exact ⟨s', h3, hw.rel hg0 hr1⟩
      exact wp_cond_split he (fun hb => wp_mono (ihx _ s a w (h1 hb) ⟨E, L, hR, hM⟩) join) fun hb => wp_mono (ihy _ s a w (h2 hb) ⟨E, L, hR, hM⟩) join
  | block id c ih =>
    intro Q s a w h hr
    refine wp_block (wp_mono (ih _ s a w h hr) fun e a w hq => ?_)
    obtain ⟨s', hq, hr'⟩ := hq
    cases e with
    | exit i =>
      simp only [blockQ] at hq
      simp only [Exit.inBlock]
      split at hq
      · rename_i hi; rw [if_pos hi]; exact ⟨s', hq, hr'⟩
      · rename_i hi; rw [if_neg hi]; exact ⟨s', hq, hr'⟩
    | _ => exact ⟨s', hq, hr'⟩
  | loop c ih =>
    intro Q s a w h hr
    let Good : Nat → Act → World → Prop := fun n a w => ∃ s, iter n0 (codeW Sp P n0 c) Q n s ∧ Rel E0 w0 L0 s a w
    classical
    let μ : Act → World → Nat := fun a w => if h : ∃ n, Good n a w then Classical.choose (exists_least h) else 0
    obtain ⟨n, hn⟩ := h
    refine wp_loop (fun a w => ∃ n, Good n a w) μ ⟨n, s, hn, hr⟩ fun a w hI => ?_
    have hμ : Good (μ a w) a w := by
      show Good (if h : ∃ n, Good n a w then Classical.choose (exists_least h) else 0) a w
      rw [dif_pos hI]
      exact (Classical.choose_spec (exists_least hI)).1
    generalize μ a w = n at hμ
    obtain ⟨s, hit, hr⟩ := hμ
    cases n with
    | zero => exact hit.elim
    | succ n =>
      obtain ⟨s', hweak, hit⟩ := hit
      refine wp_mono (ih _ s' a w hit (hweak.rel hg0 hr)) fun e a' w' hq => ?_
      obtain ⟨s', hq, hr'⟩ := hq
      cases e with
      | normal =>
        have hg : ∃ n, Good n a' w' := ⟨n, s', hq, hr'⟩
        refine ⟨hg, ?_⟩
        show (if h : ∃ n, Good n a' w' then Classical.choose (exists_least h) else 0) < n + 1
        rw [dif_pos hg]
        exact Nat.lt_succ_of_le ((Classical.choose_spec (exists_least hg)).2 n ⟨s', hq, hr'⟩)
      | _ => exact ⟨s', hq, hr'⟩
  | exit id => intro Q s a w h hr; exact wp_exit ⟨s, h, hr⟩
  | ret => intro Q s a w h hr; exact wp_ret ⟨s, h, hr⟩
  | _ => intro Q s a w h hr; exact h.elim
end Go.Ev

/-
From the evaluation of a body to a specification; loops by invariants.
-/
set_option linter.unusedVariables false
set_option linter.unusedSimpArgs false
namespace Go.Ev
variable {P : Program} {E : Env} {s : S} {a : Act} {w : World} {L : List Nat}

def numL : Nat → List AV → List (Nat × AV)
  | _, [] => []
  | i, v :: r => (i, v) :: numL (i + 1) r
def resO (s : S) : List ResultVar → Option (List AV)
  | [] => some []
  | .tmp t :: r => (look t s.t).bind fun v => (resO s r).map fun vs => v :: vs
  | .cell _ _ :: _ => none
def oneA : List AV → AV
  | [v] => v
  | vs => .tup vs
/-- What the parameters hold at the end. -/
def foldPs : Nat → Mem → List AV → Option (List AV × Mem × Prop)
  | _, b, [] => some ([], b, True)
  | k, b, v :: r => match fold k b v with
    | some x => (foldPs k x.2.1 r).map fun y => (x.1 :: y.1, y.2.1, x.2.2 ∧ y.2.2)
    | none => (foldPs k b r).map fun y => (.undef :: y.1, y.2.1, y.2.2)
/-- What is told at the end: the result, and what the parameters hold. -/
def leave3 (p : Prop) (v : AV) (Z : List AV → Prop) : Option (List AV × Mem × Prop) → Prop
  | some y => p ∧ y.2.2 ∧ Z (v :: y.1)
  | none => False
def leave2 (params : List AV) (Z : List AV → Prop) : Option (AV × Mem × Prop) → Prop
  | some x => leave3 x.2.2 x.1 Z (foldPs 40 x.2.1 params)
  | none => False
def leave1 (b : Mem) (params : List AV) (Z : List AV → Prop) : Option (List AV) → Prop
  | some vs => leave2 params Z (fold 40 b (oneA vs))
  | none => False
def leaveW (rs : List ResultVar) (params : List AV) (Z : List AV → Prop) (s : S) : Prop := leave1 s.b params Z (resO s rs)
theorem leave_of {rs : List ResultVar} {params : List AV} {Z : List AV → Prop} {s : S} (h : leaveW rs params Z s) :
    okP (resO s rs) fun vs => okP (fold 40 s.b (oneA vs)) fun x => okP (foldPs 40 x.2.1 params) fun y => x.2.2 ∧ y.2.2 ∧ Z (x.1 :: y.1) := by
  unfold leaveW at h
  cases hr : resO s rs with
  | none => rw [hr] at h; exact h.elim
  | some vs =>
    rw [hr] at h
    show okP (fold 40 s.b (oneA vs)) _
    simp only [leave1] at h
    cases hf : fold 40 s.b (oneA vs) with
    | none => rw [hf] at h; exact h.elim
    | some x =>
      rw [hf] at h
      show okP (foldPs 40 x.2.1 params) _
      simp only [leave2] at h
      cases hg : foldPs 40 x.2.1 params with
      | none => rw [hg] at h; exact h.elim
      | some y => rw [hg] at h; exact h
def endW (rs : List ResultVar) (params : List AV) (Z : List AV → Prop) : Exit → S → Prop
  | .normal, s => leaveW rs params Z s
  | .ret, s => leaveW rs params Z s
  | _, _ => False
def enterS (targs : List AV) (m : Nat) : S := { t := numL 0 (unfL targs [] 0).1, b := (unfL targs [] 0).2.1, n := (unfL targs [] 0).2.2, m := m }

theorem look_numL : ∀ {vs : List AV} {i k : Nat} {v : AV}, look k (numL i vs) = some v → ∃ j, k = i + j ∧ vs[j]? = some v
  | [], i, k, v, h => by simp [numL, look] at h
  | u :: r, i, k, v, h => by
    simp only [numL, look] at h
    by_cases hk : i = k
    · rw [if_pos hk] at h; injection h with h; subst h hk; exact ⟨0, rfl, rfl⟩
    · rw [if_neg hk] at h
      obtain ⟨j, e, hj⟩ := look_numL h
      exact ⟨j + 1, by omega, by simpa using hj⟩

theorem res_eval {fn : Func} (hR : R E s a w L) : ∀ {rs : List ResultVar} {vs : List AV}, resO s rs = some vs → ∃ cvs, (rs.mapM (m := Sem) fun
      | .tmp t => pure (a.tmps.getD t undef)
      | .cell b t => do loadVar t (← asAddr (a.tmps.getD b undef))).run P w = .ok cvs w ∧ RepL E vs cvs []
  | [], vs, h => by simp only [resO, Option.some.injEq] at h; subst h; exact ⟨[], by simp, .nil⟩
  | .tmp t :: r, vs, h => by
    simp only [resO, Option.bind_eq_some_iff, Option.map_eq_some_iff] at h
    obtain ⟨v, hv, us, hu, rfl⟩ := h
    obtain ⟨cvs, h1, h2⟩ := res_eval (fn := fn) hR hu
    refine ⟨a.tmps.getD t undef :: cvs, ?_, .cons (l := []) (m := []) (hR.tmp t v hv) h2⟩
    simp only [List.mapM_cons, Sem.run_bind, Sem.run_pure, Result.andThen_ok, h1]
  | .cell _ _ :: _, vs, h => by cases h

theorem one_rep {vs : List AV} {cvs : Array Value} (h : RepL E vs cvs.toList []) : Rep E (oneA vs) (if h : cvs.size = 1 then cvs[0] else .tuple cvs) [] := by
  have hl : vs.length = cvs.size := by rw [h.length]; simp
  split
  · rename_i h1
    cases vs with
    | nil => simp at hl; omega
    | cons v r =>
      cases r with
      | cons _ _ => simp at hl; omega
      | nil =>
        obtain ⟨cv, r1, l1, l2, e1, hl', h1', h2⟩ := h.inv
        obtain ⟨rfl, rfl⟩ : l1 = [] ∧ l2 = [] := by simpa using hl'.symm
        have : cvs[0] = cv := by
          have : cvs.toList[0]? = some cv := by rw [e1]; rfl
          simp at this
          rw [Array.getElem?_eq_getElem (by omega)] at this
          injection this
        rw [this]
        exact h1'
  · rename_i h1
    have : oneA vs = .tup vs := by
      cases vs with
      | nil => rfl
      | cons v r =>
        cases r with
        | nil => simp at hl; omega
        | cons _ _ => rfl
    rw [this]
    exact .tup h

structure FoldPs (E : Env) (vs' : List AV) (cvs : List Value) (b b' : Mem) (L l' L' rest : List Nat) : Prop where
  rep : RepL E vs' cvs l'
  blk : Blks E b' L'
  perm : (l' ++ (L' ++ rest)).Perm L
  bd : BdL 0 vs'
  keys : (b'.map (·.1)).Sublist (b.map (·.1))
theorem foldPs_ok (k : Nat) : ∀ {vs vs' : List AV} {b b' : Mem} {p : Prop} {cvs : List Value} {L : List Nat}, foldPs k b vs = some (vs', b', p) → p → RepL E vs cvs [] → Blks E b L → (b.map (·.1)).Nodup →
    ∃ l' L' rest, FoldPs E vs' cvs b b' L l' L' rest
  | [], vs', b, b', p, cvs, L, h, hp, hv, hb, hk => by
    simp only [foldPs, Option.some.injEq, Prod.mk.injEq] at h
    obtain ⟨rfl, rfl, rfl⟩ := h
    cases hv
    exact ⟨[], L, [], .nil, hb, by simp, by simp [BdL], List.Sublist.refl _⟩
  | v :: vs, vs', b, b', p, cvs, L, h, hp, hv, hb, hk => by
    obtain ⟨cv1, cvs', l1, l2, rfl, hl, h1, h2⟩ := hv.inv
    obtain ⟨rfl, rfl⟩ : l1 = [] ∧ l2 = [] := by simpa using hl.symm
    simp only [foldPs] at h
    split at h
    · rename_i x hx
      obtain ⟨y, hy, h⟩ := Option.map_eq_some_iff.1 h
      simp only [Prod.mk.injEq] at h
      obtain ⟨rfl, rfl, rfl⟩ := h
      obtain ⟨lp1, Lr1, rest1, hok1⟩ := (fold_ok_both (E := E) k).1 b v x.1 x.2.1 x.2.2 hx hp.1 cv1 [] L h1 hb hk
      obtain ⟨lp2, Lr2, rest2, hok⟩ := foldPs_ok k (vs' := y.1) (b' := y.2.1) (p := y.2.2) hy hp.2 h2 hok1.blk (hok1.keys.nodup hk)
      refine ⟨lp1 ++ lp2, Lr2, rest2 ++ rest1, .cons hok1.rep hok.rep, hok.blk, ?_, by simp only [BdL]; exact ⟨hok1.bd, hok.bd⟩, hok.keys.trans hok1.keys⟩
      refine List.perm_iff_count.2 fun z => ?_
      have e1 := List.perm_iff_count.1 hok1.perm z
      have e2 := List.perm_iff_count.1 hok.perm z
      simp only [List.count_append, List.count_nil] at e1 e2 ⊢
      omega
    · obtain ⟨y, hy, h⟩ := Option.map_eq_some_iff.1 h
      simp only [Prod.mk.injEq] at h
      obtain ⟨rfl, rfl, rfl⟩ := h
      obtain ⟨lp2, Lr2, rest2, hok⟩ := foldPs_ok k (vs' := y.1) (b' := y.2.1) (p := y.2.2) hy hp h2 hb hk
      exact ⟨lp2, Lr2, rest2, .cons (l := []) (.undef _) hok.rep, hok.blk, hok.perm, by simp only [BdL, Bd, true_and]; exact hok.bd, hok.keys⟩

theorem spec_of {f : FuncId} {fn : Func} {c : Code} {targs : List AV} {res : AV} {outs : List AV} (hf : P.funcs[f]? = some fn) (hname : (fn.name == "runtime.NumGoroutine") = false) (hb : fn.body = some c)
    (hm : targs.length ≤ fn.ntmps)
    (h : codeW (Spec P) P (unfL targs [] 0).2.2 c (endW fn.results.toList (unfL targs [] 0).1 fun r => r = res :: outs) (enterS targs fn.ntmps)) : Spec P f targs res outs := by
  refine ⟨⟨fn, hf, hname, by rw [hb]; rfl⟩, fun w st vs L hrep hown => ?_⟩
  refine calls_of_wp hf hb ?_
  have hlen : targs.length = vs.size := by rw [hrep.length]; simp
  obtain ⟨g, L1, hun⟩ := unfL_ok (E := bare w.heap st) hown.sub targs vs.toList [] 0 L [] hrep .nil (fun id x h => by cases h) List.nodup_nil (fun k hk => by cases hk)
  have hp : L1.Perm L := by simpa using hun.perm
  let E0 : Env := { h := w.heap, st := st, g := g }
  have hown1 : Own E0 L1 := ⟨hp.nodup_iff.2 hown.nodup, fun b hb => hown.lt b (hp.mem_iff.1 hb), fun b hb => hown.off b (hp.mem_iff.1 hb), hown.stlt, hown.sub⟩
  let a0 : Act := { tmps := vs ++ Array.replicate (fn.ntmps - vs.size) undef, defers := [] }
  have hR : R E0 (enterS targs fn.ntmps) a0 w L1 := by
    refine ⟨rfl, ?_, fun k v hk => ?_, hun.blk, hun.keys, hown1, hun.gn, rfl⟩
    · show fn.ntmps = (vs ++ Array.replicate (fn.ntmps - vs.size) undef).size
      simp; omega
    · obtain ⟨j, rfl, hj⟩ := look_numL hk
      obtain ⟨cv, li, h1, h2, p, q, e⟩ := hun.rep.get hj
      obtain rfl : li = [] := by
        have := congrArg List.length e
        simp at this
        exact List.eq_nil_of_length_eq_zero (by omega)
      have hlt : j < vs.size := by
        have := (List.getElem?_eq_some_iff.1 h1).1; simpa using this
      have : a0.tmps.getD (0 + j) undef = cv := by
        show (vs ++ Array.replicate (fn.ntmps - vs.size) undef).getD (0 + j) undef = cv
        rw [Array.getD_eq_getD_getElem?, Nat.zero_add, Array.getElem?_append_left hlt, ← Array.getElem?_toList, h1]
        rfl
      rw [this]
      exact h2
  have hM : Move E0 w L1 E0 w L1 := .refl hR
  have h0 : Low E0 w := hown.stlt
  refine wp_mono (code_wp (E0 := E0) (w0 := w) (L0 := L1) (fun _ _ _ _ h => h) h0 (n0 := (unfL targs [] 0).2.2) hun.gn c _ _ a0 w h ⟨E0, L1, hR, hM⟩) fun e a' w' hq => ?_
  obtain ⟨s', hq, E, L', hR', hM'⟩ := hq
  have main : leaveW fn.results.toList (unfL targs [] 0).1 (fun r => r = res :: outs) s' → a'.defers = [] ∧ ∃ v, (results fn a'.tmps).run P w' = .ok v w' ∧ Post w st vs L res outs (.returned v) w' := by
    intro hl
    have hl := leave_of hl
    obtain ⟨us, hus, hl⟩ := okP_of hl
    obtain ⟨⟨r1, b1, p1⟩, hfold1, hl⟩ := okP_of hl
    obtain ⟨⟨r2, b2, p2⟩, hfold2, hpp1, hpp2, hz⟩ := okP_of hl
    simp only at hfold1 hfold2 hpp1 hpp2 hz
    injection hz with hz1 hz2
    subst hz1 hz2
    obtain ⟨cvs, hrun, hrep'⟩ := res_eval (P := P) (fn := fn) hR' hus
    refine ⟨hR'.defers, (if h : cvs.toArray.size = 1 then cvs.toArray[0] else .tuple cvs.toArray), ?_, ?_⟩
    · unfold results
      rw [Sem.run_bind]
      have : ((fn.results.mapM (m := Sem) fun
          | .tmp t => pure (a'.tmps.getD t undef)
          | .cell b t => do loadVar t (← asAddr (a'.tmps.getD b undef))) : Sem (Array Value)).run P w' = .ok cvs.toArray w' := by
        rw [Array.mapM_eq_mapM_toList]
        show ((List.toArray <$> _ : Sem (Array Value))).run P w' = _
        rw [map_eq_pure_bind, Sem.run_bind]
        erw [hrun]
        rfl
      erw [this]
      rfl
    · have hparams : RepL E (unfL targs [] 0).1 vs.toList [] := hun.rep.ext hM'.ext
      obtain ⟨la, La, resta, hoka⟩ := (fold_ok_both (E := E) 40).1 _ _ _ _ _ hfold1 hpp1 _ [] L' (one_rep (by simpa using hrep')) hR'.blk hR'.keys
      obtain ⟨lb, L2, restb, hokb⟩ := foldPs_ok (E := E) 40 hfold2 hpp2 hparams hoka.blk (hoka.keys.nodup hR'.keys)
      obtain ⟨l', hl'⟩ : ∃ l', l' = la ++ lb := ⟨_, rfl⟩
      have hperm : (l' ++ (L2 ++ (restb ++ resta))).Perm L' := by
        subst hl'
        refine List.perm_iff_count.2 fun z => ?_
        have e1 := List.perm_iff_count.1 hoka.perm z
        have e2 := List.perm_iff_count.1 hokb.perm z
        simp only [List.count_append, List.count_nil] at e1 e2 ⊢
        omega
      have hsub : ∀ b ∈ l', b ∈ L' := fun b hb => hperm.mem_iff.1 (by simp [hb])
      have hh : E.h = w'.heap := hR'.heap
      have hrep2 : RepL (bare w'.heap E.st) (r1 :: r2) ((if h : cvs.toArray.size = 1 then cvs.toArray[0] else .tuple cvs.toArray) :: vs.toList) l' := by
        have h1 : RepL E (r1 :: r2) _ l' := hl' ▸ RepL.cons hoka.rep hokb.rep
        have : E = { h := w'.heap, st := E.st, g := E.g } := by rw [← hh]
        rw [this] at h1
        exact h1.base (by simp only [BdL]; exact ⟨hoka.bd, hokb.bd⟩)
      refine ⟨_, E.st, l', rfl, hrep2, ⟨(List.nodup_append.1 (hperm.nodup_iff.2 hR'.own.nodup)).1, fun b hb => ?_, fun b hb => hR'.own.off b (hsub b hb), fun fl b hb => ?_, hR'.own.sub⟩, ⟨hM'.size, fun b hb hn => hM'.keep b hb fun hm => hn (hp.mem_iff.1 hm), fun fl b hb => hM'.ext.st fl b hb, hM'.stF, fun fl b hb => ?_, fun b hb => ?_, hM'.os, hM'.tape, hM'.output⟩⟩
      · show b < w'.heap.size
        rw [← hh]; exact hR'.own.lt b (hsub b hb)
      · show b < w'.heap.size
        rw [← hh]; exact hR'.own.stlt fl b hb
      · rcases hM'.stN fl b hb with h | h | h
        · exact .inl h
        · exact .inr (.inl (hp.mem_iff.1 h))
        · exact .inr (.inr h)
      · rcases hM'.new b (hsub b hb) with h | h
        · exact .inl (hp.mem_iff.1 h)
        · exact .inr h
  cases e with
  | normal => exact main hq
  | ret => exact main hq
  | _ => exact hq.elim
end Go.Ev

/-
The evaluation as a machine of equations: what simp runs.
-/
set_option linter.unusedVariables false
set_option linter.unusedSimpArgs false
namespace Go.Ev
variable {P : Program} {n0 : Nat}

inductive Item where
  | ops (all l : List Oper)
  | code (c : Code)
  | blk (id : Nat)
def itemQ (P : Program) (n0 : Nat) : List Item → (Exit → S → Prop) → Exit → S → Prop
  | [], Q => Q
  | .ops all l :: r, Q => seqQ (fun s => opsW (Spec P) P all l s (itemQ P n0 r Q .normal)) (itemQ P n0 r Q)
  | .code c :: r, Q => seqQ (codeW (Spec P) P n0 c (itemQ P n0 r Q)) (itemQ P n0 r Q)
  | .blk id :: r, Q => blockQ id (itemQ P n0 r Q)
/-- What simp is kept from looking into: another argument's type hangs on it. -/
inductive Hid {α : Type} (k : α) : Type where
  | mk
/-- What is still to be run. -/
structure Rest where
  l : List Item
  Q : Exit → S → Prop
/-- What is still to be run behind an operation. -/
structure Tail where
  d : Option Tmp
  all : List Oper
  l : List Oper
  r : List Item
  Q : Exit → S → Prop
def Run (P : Program) (n0 : Nat) {k : Rest} (h : Hid k) (e : Exit) (s : S) : Prop := itemQ P n0 k.l k.Q e s
def tailK (P : Program) (n0 : Nat) (k : Tail) (s : S) (v : AV) : Prop := @Run P n0 ⟨.ops k.all k.l :: k.r, k.Q⟩ .mk .normal (s.put k.d v)
def After (P : Program) (n0 : Nat) {k : Tail} (h : Hid k) (o : Out) : Prop := outW (Spec P) o (tailK P n0 k)
def CallR (P : Program) (n0 : Nat) {k : Tail} (h : Hid k) (s : S) (g : FuncId) (args : List AV) : Prop := ∃ gm, callW (Spec P) s g args gm (tailK P n0 k)
def Drw (P : Program) (n0 : Nat) {ops : Array Oper} {k : Rest} (h : Hid (ops, k)) (s : S) : Prop := drawOk P ops = true ∧ @Run P n0 k .mk .normal s
structure LoopK where
  c : Code
  r : List Item
  Q : Exit → S → Prop
def LoopR (P : Program) (n0 : Nat) {k : LoopK} (h : Hid k) (s : S) : Prop := LoopW n0 (codeW (Spec P) P n0 k.c) (itemQ P n0 k.r k.Q) s

section
variable {all l : List Oper} {r : List Item} {Q : Exit → S → Prop} {s : S} {d : Option Tmp} {op : Op} {ty : TypeId} {pos : String} {aft : Array Edge} {v : AV} {o : Out} {p A B : Prop}
theorem run_nil {e : Exit} : @Run P n0 ⟨[], Q⟩ .mk e s = Q e s := rfl
theorem run_done : @Run P n0 ⟨.ops all [] :: r, Q⟩ .mk .normal s = @Run P n0 ⟨r, Q⟩ .mk .normal s := rfl
theorem run_op : @Run P n0 ⟨.ops all (⟨d, op, ty, pos, aft, none⟩ :: l) :: r, Q⟩ .mk .normal s = @After P n0 ⟨d, all, l, r, Q⟩ .mk (opO P s ty op) := rfl
theorem after_ok : @After P n0 ⟨d, all, l, r, Q⟩ .mk (.ok s v) = @Run P n0 ⟨.ops all l :: r, Q⟩ .mk .normal (s.put d v) := rfl
theorem after_need {k} : @After P n0 k .mk (.need p o) = (p ∧ @After P n0 k .mk o) := rfl
theorem after_hyp {k} : @After P n0 k .mk (.hyp p o) = (p → @After P n0 k .mk o) := rfl
theorem after_fail {k} : @After P n0 k .mk .fail = False := rfl
theorem after_call {k} {g : FuncId} {args : List AV} : @After P n0 k .mk (.call s g args) = @CallR P n0 k .mk s g args := rfl
theorem run_skip : @Run P n0 ⟨.code .skip :: r, Q⟩ .mk .normal s = @Run P n0 ⟨r, Q⟩ .mk .normal s := rfl
theorem run_region {id : Nat} {ops : Array Oper} : @Run P n0 ⟨.code (.region id ops false) :: r, Q⟩ .mk .normal s = @Run P n0 ⟨.ops ops.toList ops.toList :: r, Q⟩ .mk .normal s := by simp [Run, itemQ, seqQ, codeW]
theorem run_draw {id : Nat} {ops : Array Oper} : @Run P n0 ⟨.code (.region id ops true) :: r, Q⟩ .mk .normal s = @Drw P n0 ops ⟨.ops ops.toList ops.toList :: r, Q⟩ .mk s := by simp [Run, itemQ, seqQ, codeW, Drw]
theorem run_seq {a b : Code} : @Run P n0 ⟨.code (.seq a b) :: r, Q⟩ .mk .normal s = @Run P n0 ⟨.code a :: .code b :: r, Q⟩ .mk .normal s := rfl
theorem run_block {id : Nat} {c : Code} : @Run P n0 ⟨.code (.block id c) :: r, Q⟩ .mk .normal s = @Run P n0 ⟨.code c :: .blk id :: r, Q⟩ .mk .normal s := rfl
theorem run_loop {c : Code} : @Run P n0 ⟨.code (.loop c) :: r, Q⟩ .mk .normal s = @LoopR P n0 ⟨c, r, Q⟩ .mk s := rfl
theorem run_exit {id : Nat} : @Run P n0 ⟨.code (.exit id) :: r, Q⟩ .mk .normal s = @Run P n0 ⟨r, Q⟩ .mk (.exit id) s := rfl
theorem run_ret : @Run P n0 ⟨.code .ret :: r, Q⟩ .mk .normal s = @Run P n0 ⟨r, Q⟩ .mk .ret s := rfl
theorem run_exit_code {c : Code} {id : Nat} : @Run P n0 ⟨.code c :: r, Q⟩ .mk (.exit id) s = @Run P n0 ⟨r, Q⟩ .mk (.exit id) s := rfl
theorem run_ret_code {c : Code} : @Run P n0 ⟨.code c :: r, Q⟩ .mk .ret s = @Run P n0 ⟨r, Q⟩ .mk .ret s := rfl
theorem run_ret_blk {id : Nat} : @Run P n0 ⟨.blk id :: r, Q⟩ .mk .ret s = @Run P n0 ⟨r, Q⟩ .mk .ret s := rfl
theorem run_normal_blk {id : Nat} : @Run P n0 ⟨.blk id :: r, Q⟩ .mk .normal s = @Run P n0 ⟨r, Q⟩ .mk .normal s := rfl
theorem run_exit_same {i : Nat} : @Run P n0 ⟨.blk i :: r, Q⟩ .mk (.exit i) s = @Run P n0 ⟨r, Q⟩ .mk .normal s := by show (if i = i then _ else _) = _; rw [if_pos rfl]; rfl
theorem run_exit_blk {id i : Nat} (hn : i ≠ id) : @Run P n0 ⟨.blk id :: r, Q⟩ .mk (.exit i) s = @Run P n0 ⟨r, Q⟩ .mk (.exit i) s := by show (if i = id then _ else _) = _; rw [if_neg hn]; rfl
structure GK where
  op : Op
  ty : TypeId
  k : Tail
/-- An operation that runs if another one came to so. -/
def Opg (P : Program) (n0 : Nat) {k : GK} (h : Hid k) (s : S) (x : Option Bool) : Prop := ∃ b, x = some b ∧ (b = true → @After P n0 k.k .mk (opO P s k.ty k.op)) ∧ (b = false → @Run P n0 ⟨.ops k.k.all k.k.l :: k.k.r, k.k.Q⟩ .mk .normal (s.put k.k.d (.tup [])))
def gdst {all : List Oper} (h : Hid all) (i : Nat) : Option Tmp := (all[i]?).bind (·.dst)
theorem gdst_zero {o : Oper} : @gdst (o :: l) .mk 0 = o.dst := rfl
theorem gdst_succ {o : Oper} {i : Nat} : @gdst (o :: l) .mk (i + 1) = @gdst l .mk i := rfl
def guardW (w : Bool) (t : List (Nat × AV)) (o : Option Tmp) : Option Bool := (o.bind fun d => look d t).bind (guardOf w)
theorem guardW_some {w : Bool} {t : List (Nat × AV)} {d : Tmp} : guardW w t (some d) = (look d t).bind (guardOf w) := rfl
theorem run_opg {i : Nat} {w : Bool} : @Run P n0 ⟨.ops all (⟨d, op, ty, pos, aft, some (i, w)⟩ :: l) :: r, Q⟩ .mk .normal s = @Opg P n0 ⟨op, ty, ⟨d, all, l, r, Q⟩⟩ .mk s (guardW w s.t (@gdst all .mk i)) := rfl
theorem opg_t : @Opg P n0 ⟨op, ty, ⟨d, all, l, r, Q⟩⟩ .mk s (some true) = @After P n0 ⟨d, all, l, r, Q⟩ .mk (opO P s ty op) := by simp [Opg]
theorem opg_f : @Opg P n0 ⟨op, ty, ⟨d, all, l, r, Q⟩⟩ .mk s (some false) = @Run P n0 ⟨.ops all l :: r, Q⟩ .mk .normal (s.put d (.tup [])) := by simp [Opg]
theorem opg_none {k} : @Opg P n0 k .mk s none = False := by simp [Opg]
structure BK where
  x : Code
  y : Code
  r : List Item
  Q : Exit → S → Prop
def Branch (P : Program) (n0 : Nat) {k : BK} (h : Hid k) (s : S) (x : Option Bool) : Prop := ∃ b, x = some b ∧ ((b = true → @Run P n0 ⟨.code k.x :: k.r, k.Q⟩ .mk .normal s) ∧ (b = false → @Run P n0 ⟨.code k.y :: k.r, k.Q⟩ .mk .normal s) ∨
  ∃ s', (b = true → @Run P n0 ⟨[.code k.x], joinQ n0 s'⟩ .mk .normal s) ∧ (b = false → @Run P n0 ⟨[.code k.y], joinQ n0 s'⟩ .mk .normal s) ∧ @Run P n0 ⟨k.r, k.Q⟩ .mk .normal s')
theorem run_one {c : Code} {Q : Exit → S → Prop} : @Run P n0 ⟨[.code c], Q⟩ .mk .normal s = codeW (Spec P) P n0 c Q s := rfl
theorem run_cond {c : Operand} {x y : Code} : @Run P n0 ⟨.code (.cond c x y) :: r, Q⟩ .mk .normal s = @Branch P n0 ⟨x, y, r, Q⟩ .mk s ((opnd s c).bind boolOf) := rfl
theorem branch_t {x y : Code} (h : @Run P n0 ⟨.code x :: r, Q⟩ .mk .normal s) : @Branch P n0 ⟨x, y, r, Q⟩ .mk s (some true) := ⟨true, rfl, .inl ⟨fun _ => h, fun e => (by cases e)⟩⟩
theorem branch_f {x y : Code} (h : @Run P n0 ⟨.code y :: r, Q⟩ .mk .normal s) : @Branch P n0 ⟨x, y, r, Q⟩ .mk s (some false) := ⟨false, rfl, .inl ⟨fun e => (by cases e), fun _ => h⟩⟩
theorem branch_none {k} : @Branch P n0 k .mk s none = False := by simp [Branch]
end

/-! ### More is told by less -/
theorem outW_mono {Sp : FuncId → List AV → AV → List AV → Prop} : ∀ {o : Out} {K K' : S → AV → Prop}, (∀ s v, K s v → K' s v) → outW Sp o K → outW Sp o K'
  | .ok s v, _, _, h, hk => h _ _ hk
  | .need p o, _, _, h, hk => ⟨hk.1, outW_mono h hk.2⟩
  | .hyp p o, _, _, h, hk => fun hp => outW_mono h (hk hp)
  | .call s g args, _, _, h, hk => by
    obtain ⟨gm, hk⟩ := hk
    refine ⟨gm, ?_⟩
    unfold callW okP at *
    split at hk
    · split at hk
      · obtain ⟨h1, h2, res, outs, h3, h4, h5⟩ := hk
        exact ⟨h1, h2, res, outs, h3, h4, h _ _ h5⟩
      · exact hk.elim
    · exact hk.elim
  | .fail, _, _, h, hk => hk.elim
theorem opsW_mono {Sp : FuncId → List AV → AV → List AV → Prop} {all : List Oper} : ∀ {l : List Oper} {s : S} {K K' : S → Prop}, (∀ s, K s → K' s) → opsW Sp P all l s K → opsW Sp P all l s K'
  | [], s, _, _, h, hk => h s hk
  | o :: r, s, _, _, h, hk => by
    unfold opsW at *
    split at hk
    · exact outW_mono (fun _ _ => opsW_mono h) hk
    · obtain ⟨b, h1, h2, h3⟩ := hk
      exact ⟨b, h1, fun hb => outW_mono (fun _ _ => opsW_mono h) (h2 hb), fun hb => opsW_mono h (h3 hb)⟩
theorem codeW_mono {Sp : FuncId → List AV → AV → List AV → Prop} : ∀ {c : Code} {s : S} {Q Q' : Exit → S → Prop}, (∀ e s, Q e s → Q' e s) → codeW Sp P n0 c Q s → codeW Sp P n0 c Q' s := by
  intro c
  induction c with
  | skip => intro s Q Q' h hk; exact h _ _ hk
  | region id ops draw => intro s Q Q' h hk; exact ⟨hk.1, opsW_mono (fun s => h .normal s) hk.2⟩
  | seq x y ihx ihy =>
    intro s Q Q' h hk
    refine ihx (fun e s hq => ?_) hk
    cases e with
    | normal => exact ihy h hq
    | _ => exact h _ _ hq
  | cond c x y ihx ihy =>
    intro s Q Q' h hk
    obtain ⟨b, h1, (⟨h2, h3⟩ | ⟨s', h2, h3, h4⟩)⟩ := hk
    · exact ⟨b, h1, .inl ⟨fun hb => ihx h (h2 hb), fun hb => ihy h (h3 hb)⟩⟩
    · exact ⟨b, h1, .inr ⟨s', h2, h3, h _ _ h4⟩⟩
  | block id c ih =>
    intro s Q Q' h hk
    refine ih (fun e s hq => ?_) hk
    cases e with
    | exit i =>
      simp only [blockQ] at hq ⊢
      split at hq
      · rename_i hi; rw [if_pos hi]; exact h _ _ hq
      · rename_i hi; rw [if_neg hi]; exact h _ _ hq
    | _ => exact h _ _ hq
  | loop c ih =>
    intro s Q Q' h hk
    obtain ⟨n, hk⟩ := hk
    refine ⟨n, ?_⟩
    induction n generalizing s with
    | zero => exact hk.elim
    | succ n ihn =>
      obtain ⟨s', hw, hk⟩ := hk
      refine ⟨s', hw, ih (fun e s hq => ?_) hk⟩
      cases e with
      | normal => exact ihn hq
      | _ => exact h _ _ hq
  | exit id => intro s Q Q' h hk; exact h _ _ hk
  | ret => intro s Q Q' h hk; exact h _ _ hk
  | _ => intro s Q Q' h hk; exact hk.elim

theorem iter_weak {f : (Exit → S → Prop) → S → Prop} {Q : Exit → S → Prop} {n : Nat} {s s' : S} (hw : Weak n0 s s') (h : iter n0 f Q n s') : iter n0 f Q n s := by
  cases n with
  | zero => exact h.elim
  | succ n => obtain ⟨s'', h1, h2⟩ := h; exact ⟨s'', hw.trans h1, h2⟩
theorem iter_more {c : Code} {Sp : FuncId → List AV → AV → List AV → Prop} {Q : Exit → S → Prop} : ∀ {n : Nat} {s : S}, iter n0 (codeW Sp P n0 c) Q n s → iter n0 (codeW Sp P n0 c) Q (n + 1) s
  | 0, s, h => h.elim
  | n + 1, s, h => by
    obtain ⟨s', hw, h⟩ := h
    refine ⟨s', hw, codeW_mono (fun e s hq => ?_) h⟩
    cases e with
    | normal => exact iter_more hq
    | _ => exact hq
theorem iter_le {c : Code} {Sp : FuncId → List AV → AV → List AV → Prop} {Q : Exit → S → Prop} {n m : Nat} {s : S} (hl : n ≤ m) (h : iter n0 (codeW Sp P n0 c) Q n s) : iter n0 (codeW Sp P n0 c) Q m s := by
  induction hl with
  | refl => exact h
  | step _ ih => exact iter_more ih

theorem loop_rule {c : Code} {r : List Item} {Q : Exit → S → Prop} {s : S} (I : Nat → S → Prop) (n : Nat) (s' : S) (hw : Weak n0 s s') (h0 : I n s')
    (step : ∀ n s, I n s → @Run P n0 ⟨[.code c], fun e s => match e with | .normal => ∃ m, m < n ∧ ∃ s', Weak n0 s s' ∧ I m s' | e => @Run P n0 ⟨r, Q⟩ .mk e s⟩ .mk .normal s) : @LoopR P n0 ⟨c, r, Q⟩ .mk s := by
  have key : ∀ n s, I n s → iter n0 (codeW (Spec P) P n0 c) (itemQ P n0 r Q) (n + 1) s := by
    intro n
    induction n using Nat.strongRecOn with
    | _ n ih =>
      intro s hI
      refine ⟨s, .drop rfl (fun _ _ h => .inr h) (List.Sublist.refl _) (Nat.le_refl _), codeW_mono (fun e s hq => ?_) (step n s hI)⟩
      cases e with
      | normal =>
        obtain ⟨m, hm, s', hw, hI'⟩ := hq
        exact iter_weak hw (iter_le hm (ih m hm s' hI'))
      | _ => exact hq
  exact ⟨n + 1, iter_weak hw (key n s' h0)⟩

theorem spec_run {f : FuncId} {fn : Func} {c : Code} {targs : List AV} {res : AV} {outs : List AV} (hf : P.funcs[f]? = some fn) (hname : (fn.name == "runtime.NumGoroutine") = false) (hb : fn.body = some c) (hm : targs.length ≤ fn.ntmps)
    (h : @Run P (unfL targs [] 0).2.2 ⟨[.code c], endW fn.results.toList (unfL targs [] 0).1 fun r => r = res :: outs⟩ .mk .normal (enterS targs fn.ntmps)) : Spec P f targs res outs := spec_of hf hname hb hm h
end Go.Ev

/-
The equations that the evaluation runs by.
-/
set_option linter.unusedVariables false
namespace Go.Ev

theorem put_some {t : List (Nat × AV)} {b : Mem} {n m d : Nat} {v : AV} : S.put ⟨t, b, n, m⟩ (some d) v = if d < m then ⟨(d, v) :: t, b, n, m⟩ else ⟨t, b, n, m⟩ := rfl
theorem put_none {s : S} {v : AV} : S.put s none v = s := rfl
theorem look_nil {α : Type} {k : Nat} : look k ([] : List (Nat × α)) = none := rfl
theorem look_cons {α : Type} {k k' : Nat} {v : α} {r : List (Nat × α)} : look k ((k', v) :: r) = if k' = k then some v else look k r := rfl
theorem setB_nil {k : Nat} {v : Blk} : setB k v [] = [] := rfl
theorem setB_cons {k k' : Nat} {v u : Blk} {r : Mem} : setB k v ((k', u) :: r) = if k' = k then (k', v) :: r else (k', u) :: setB k v r := rfl
theorem delB_nil {k : Nat} : delB k [] = [] := rfl
theorem delB_cons {k k' : Nat} {u : Blk} {r : Mem} : delB k ((k', u) :: r) = if k' = k then r else (k', u) :: delB k r := rfl

theorem cellsOf_agg {cs : List AV} : cellsOf (.agg cs) = cs := rfl
theorem cellsOf_bool {b : Bool} : cellsOf (.bool b) = [.bool b] := rfl
theorem cellsOf_int {k : IntKind} {n : Int} : cellsOf (.int k n) = [.int k n] := rfl
theorem cellsOf_str {s : ByteArray} : cellsOf (.str s) = [.str s] := rfl
theorem cellsOf_nilp  : cellsOf .nilp = [.nilp] := rfl
theorem cellsOf_loc {i j : Nat} : cellsOf (.loc i j) = [.loc i j] := rfl
theorem cellsOf_elp {i n k j : Nat} : cellsOf (.elp i n k j) = [.elp i n k j] := rfl
theorem cellsOf_fz {cs : List AV} : cellsOf (.fz cs) = [.fz cs] := rfl
theorem cellsOf_optr {e : AV} {j : Nat} : cellsOf (.optr e j) = [.optr e j] := rfl
theorem cellsOf_lst {f : Bool} {z : Nat} {l : List AV} : cellsOf (.lst f z l) = [.lst f z l] := rfl
theorem cellsOf_row {i n o l : Nat} : cellsOf (.row i n o l) = [.row i n o l] := rfl
theorem cellsOf_rowc {i n o l : Nat} : cellsOf (.rowc i n o l) = [.rowc i n o l] := rfl
theorem cellsOf_olst {z : Nat} {l : List AV} : cellsOf (.olst z l) = [.olst z l] := rfl
theorem cellsOf_tup {vs : List AV} : cellsOf (.tup vs) = [.tup vs] := rfl
theorem cellsOf_nilf  : cellsOf .nilf = [.nilf] := rfl
theorem cellsOf_clo {f : Nat} {cs : List AV} : cellsOf (.clo f cs) = [.clo f cs] := rfl
theorem cellsOf_nili  : cellsOf .nili = [.nili] := rfl
theorem cellsOf_nilm  : cellsOf .nilm = [.nilm] := rfl
theorem cellsOf_mp {i : Nat} : cellsOf (.mp i) = [.mp i] := rfl
theorem cellsOf_omp {a b : List AV} : cellsOf (.omp a b) = [.omp a b] := rfl
theorem cellsOf_undef  : cellsOf .undef = [.undef] := rfl
attribute [push_cast] cellsOf_agg cellsOf_bool cellsOf_int cellsOf_str cellsOf_nilp cellsOf_loc cellsOf_elp cellsOf_fz cellsOf_optr cellsOf_lst cellsOf_row cellsOf_rowc cellsOf_olst cellsOf_tup cellsOf_nilf cellsOf_clo cellsOf_nili cellsOf_nilm cellsOf_mp cellsOf_omp cellsOf_undef
attribute [go_sem ↓] run_nil run_done run_op run_opg run_skip run_region run_draw run_seq run_cond run_block run_loop run_exit_same run_exit run_ret run_exit_code run_ret_code run_ret_blk run_normal_blk run_exit_blk
  after_ok after_need after_hyp after_fail after_call
attribute [push_cast] gdst_zero gdst_succ guardW_some opg_t opg_f opg_none branch_none guardOf
  put_some put_none look_nil look_cons setB_nil setB_cons delB_nil delB_cons okO_some okO_none okP_some
  opO opnd opnds opndsT C1 allC1 ofV ofV1 ofCells reCells putAt moveO boxO pickO boolOf tupOf aggOf nilT unf unfL loadO loadE loadK storeO elsO rowAt ownAt getRow getObj binO unO convO indexAddrO indexArrO idxAddrO indexO fieldAddrO
  bnd sliceO lenO frz1 frzC frzV frzL appK appendO lend lendL giveL lendA back1 backC back backG noFG callO putN nilCheckO buildSliceO fillA minmaxO one1 two2 builtinO elemK fieldsOf fold foldL foldPs resO oneA leaveW leave1 leave2 leave3 endW enterS numL
  Bd BdL NoF NoFL NoO NoOL low lowL eqK eqLK keyK mapK intOf mapSetO mapOf lookK makeMapO getMap Option.getD_some Option.getD_none
  Option.bind_some Option.bind_none Option.map_some Option.map_none Option.isNone_none Option.isNone_some Option.isSome_some Option.isSome_none
  List.map_cons List.map_nil List.length_cons List.length_nil List.take_succ_cons List.take_zero List.drop_succ_cons List.drop_zero List.take_nil List.drop_nil List.cons_append List.nil_append List.append_nil List.getElem?_cons_succ List.getElem?_cons_zero List.getElem?_nil
  Bool.and_true Bool.true_and Bool.and_false Bool.false_and Bool.or_true Bool.true_or Bool.or_false Bool.false_or Bool.not_true Bool.not_false List.length_map List.headD_cons List.headD_nil List.tail_cons
  and_true true_and and_false false_and or_true true_or or_false false_or not_true_eq_false not_false_eq_true
end Go.Ev
namespace Go.Ev
theorem bdL_map {α : Type} {n : Nat} {f : α → AV} {l : List α} : BdL n (l.map f) = ∀ r ∈ l, Bd n (f r) := by
  apply propext; rw [bdL_iff]; simp
theorem noOL_map {α : Type} {f : α → AV} {l : List α} : NoOL (l.map f) = ∀ r ∈ l, NoO (f r) := by
  apply propext; rw [noOL_iff]; simp
theorem noFL_map {α : Type} {f : α → AV} {l : List α} : NoFL (l.map f) = ∀ r ∈ l, NoF (f r) := by
  apply propext; rw [noFL_iff]; simp
theorem lowL_map {α : Type} {f : α → AV} {l : List α} : lowL (l.map f) = l.map fun r => low (f r) := by
  induction l with
  | nil => rfl
  | cons a l ih => simp [lowL, ih]
attribute [push_cast] bdL_map noOL_map noFL_map lowL_map implies_true forall_const
def subL : List (Nat × AV) → List (Nat × AV) → Prop
  | [], _ => True
  | (k, v) :: r, t => look k t = some v ∧ subL r t
theorem subL_look : ∀ {t' t : List (Nat × AV)}, subL t' t → ∀ k v, look k t' = some v → look k t = some v
  | [], _, _, _, _, h => by simp [look] at h
  | (k', v') :: r, t, hs, k, v, h => by
    simp only [look] at h
    by_cases hk : k' = k
    · rw [if_pos hk] at h; injection h with h; subst h hk; exact hs.1
    · rw [if_neg hk] at h; exact subL_look hs.2 k v h
theorem subL_nil {t : List (Nat × AV)} : subL [] t = True := rfl
theorem subL_cons {k : Nat} {v : AV} {r t : List (Nat × AV)} : subL ((k, v) :: r) t = (look k t = some v ∧ subL r t) := rfl
attribute [push_cast] subL_nil subL_cons Option.some.injEq AV.int.injEq AV.bool.injEq AV.str.injEq AV.row.injEq AV.lst.injEq AV.agg.injEq AV.loc.injEq
theorem weak_drop {n0 n n' m : Nat} {t t' : List (Nat × AV)} {b b' : Mem} (ht : subL t' t) (hb : b'.Sublist b) (hn : n ≤ n') : Weak n0 ⟨t, b, n, m⟩ ⟨t', b', n', m⟩ := .drop rfl (fun k v h => .inr (subL_look ht k v h)) hb hn
end Go.Ev

/-
Texts by their bytes; conditions that are split; calls by their specification.
-/
set_option linter.unusedVariables false
namespace Go.Ev

/-- A text out of its bytes. -/
def ofL (l : List UInt8) : ByteArray := ⟨⟨l⟩⟩
theorem ofL_size {l : List UInt8} : (ofL l).size = l.length := rfl
theorem ofL_data {l : List UInt8} : (ofL l).data.toList = l := rfl
theorem ofL_mk {l : List UInt8} : ByteArray.mk (List.toArray l) = ofL l := rfl
theorem ofL_of (a : ByteArray) : a = ofL a.data.toList := rfl
theorem toList_loop : ∀ (k : Nat) (a : ByteArray) (i : Nat) (r : List UInt8), a.size - i = k → ByteArray.toList.loop a i r = r.reverse ++ a.data.toList.drop i
  | 0, a, i, r, h => by
    rw [ByteArray.toList.loop]
    have h1 : a.data.toList.length ≤ i := by have : a.data.size = a.size := rfl; simp; omega
    rw [if_neg (by omega), List.drop_eq_nil_of_le h1, List.append_nil]
  | k + 1, a, i, r, h => by
    rw [ByteArray.toList.loop]
    have h1 : i < a.data.toList.length := by have : a.data.size = a.size := rfl; simp; omega
    rw [if_pos (by omega), toList_loop k a (i + 1) _ (by omega), List.drop_eq_getElem_cons h1]
    have : a.get! i = a.data.toList[i] := by
      have h2 : i < a.data.size := by simpa using h1
      show a.data[i]! = _
      rw [getElem!_pos a.data i h2]
      simp
    simp [this]
theorem ofL_toList {l : List UInt8} : (ofL l).toList = l := by
  unfold ByteArray.toList
  rw [toList_loop _ _ 0 [] rfl]
  rfl
theorem ofL_append {a b : List UInt8} : ofL a ++ ofL b = ofL (a ++ b) := by
  show ByteArray.append _ _ = _
  simp [ByteArray.append, ofL, ByteArray.copySlice, ByteArray.size]
theorem ofL_inj {a b : List UInt8} : (ofL a = ofL b) = (a = b) := by
  simp [ofL]
theorem ofL_extract {l : List UInt8} {i j : Nat} : (ofL l).extract i j = ofL ((l.drop i).take (j - i)) := by
  apply ByteArray.ext
  rw [ByteArray.data_extract]
  apply Array.ext'
  simp [ofL]
attribute [push_cast] ofL_size ofL_data ofL_mk ofL_toList ofL_append ofL_inj ofL_extract
end Go.Ev

/-
Conditions that are split; calls by their specification; loops over a list.
-/
set_option linter.unusedVariables false
namespace Go.Ev
variable {P : Program} {n0 : Nat}
section
variable {all l : List Oper} {r : List Item} {Q : Exit → S → Prop} {s : S} {d : Option Tmp} {op : Op} {ty : TypeId} {pos : String} {aft : Array Edge} {v : AV} {o : Out} {p A B : Prop}
theorem cond_split {x y : Code} {b : Bool} (ht : b = true → @Run P n0 ⟨.code x :: r, Q⟩ .mk .normal s) (hf : b = false → @Run P n0 ⟨.code y :: r, Q⟩ .mk .normal s) : @Branch P n0 ⟨x, y, r, Q⟩ .mk s (some b) := ⟨b, rfl, .inl ⟨ht, hf⟩⟩
theorem guard_split {b : Bool} (ht : b = true → @After P n0 ⟨d, all, l, r, Q⟩ .mk (opO P s ty op)) (hf : b = false → @Run P n0 ⟨.ops all l :: r, Q⟩ .mk .normal (s.put d (.tup []))) :
    @Opg P n0 ⟨op, ty, ⟨d, all, l, r, Q⟩⟩ .mk s (some b) := ⟨b, rfl, ht, hf⟩
theorem drw_intro {ops : Array Oper} {k} (hd : drawOk P ops = true) (hk : @Run P n0 k .mk .normal s) : @Drw P n0 ops k .mk s := ⟨hd, hk⟩
/-- A call of a function whose specification is known. -/
theorem call_by {g : FuncId} {args : List AV} (gm : List Bool) {ta : List AV} {res : AV} {outs : List AV} (hs : Spec P g ta res outs) {x : List AV × Mem × Prop} {y : List AV × List Nat × Prop}
    (hg : giveL gm s.b args = some x) (hl : lendA gm x.2.1 x.1 = some y) (ht : y.1 = ta) (hp : x.2.2 ∧ y.2.2 ∧ (y.2.1 = [] ∨ NoF res ∧ noFG gm outs))
    (hk : @Run P n0 ⟨.ops all l :: r, Q⟩ .mk .normal ((putN s (unf res (backG gm x.2.1 args outs) s.n)).put d (unf res (backG gm x.2.1 args outs) s.n).1)) : @CallR P n0 ⟨d, all, l, r, Q⟩ .mk s g args := by
  refine ⟨gm, ?_⟩
  unfold callW
  rw [hg]
  show okP (lendA gm x.2.1 x.1) _
  rw [hl]
  exact ⟨hp.1, hp.2.1, res, outs, ht ▸ hs, hp.2.2, hk⟩
end

theorem beq_int {a b : Int} : (a == b) = decide (a = b) := rfl
theorem bne_int {a b : Int} : (a != b) = !decide (a = b) := by by_cases h : a = b <;> simp [h]
theorem beq_bool {a b : Bool} : (a == b) = decide (a = b) := by cases a <;> cases b <;> rfl
attribute [push_cast] beq_bool ne_eq
theorem beq_list {a b : List UInt8} : (a == b) = decide (a = b) := by
  by_cases h : a = b
  · simp [h]
  · have : (a == b) = false := by simpa using h
    rw [this]; simp [h]
theorem pick_bool {c : Bool} {a b : Bool} : (AV.bool (if c = true then a else b)) = AV.bool (bif c then a else b) := by cases c <;> rfl
theorem nn (i : Nat) : ((0 : Int) ≤ (i : Int)) = True := by simp
theorem ltn (i j : Nat) : ((i : Int) < (j : Int)) = (i < j) := by simp
theorem len_ne {α : Type} {l : List α} {i : Nat} (h : i < l.length) : l[i]? = some l[i] := List.getElem?_eq_getElem h
theorem getO_map {α : Type} {f : α → AV} {l : List α} {i : Nat} {K : AV → Out} : getO (l.map f) i K = okO l[i]? fun r => K (f r) := by unfold getO okO; rw [List.getElem?_map]; cases l[i]? <;> rfl
def okH {α : Type} (o : Option α) {K : α → Out} (h : Hid K) : Out := okO o K
theorem okO_hid {α : Type} {o : Option α} {K : α → Out} : okO o K = @okH α o K .mk := rfl
theorem okH_some {α : Type} {v : α} {K : α → Out} : @okH α (some v) K .mk = K v := rfl
theorem okH_none {α : Type} {K : α → Out} : @okH α none K .mk = .fail := rfl
def getH (l : List AV) (i : Nat) {K : AV → Out} (h : Hid K) : Out := getO l i K
theorem getO_hid {l : List AV} {i : Nat} {K : AV → Out} : getO l i K = @getH l i K .mk := rfl
theorem getH_nil {i : Nat} {K : AV → Out} : @getH [] i K .mk = .fail := rfl
theorem getH_zero {v : AV} {l : List AV} {K : AV → Out} : @getH (v :: l) 0 K .mk = K v := rfl
theorem getH_succ {v : AV} {l : List AV} {i : Nat} {K : AV → Out} : @getH (v :: l) (i + 1) K .mk = @getH l i K .mk := rfl
theorem getH_map {α : Type} {f : α → AV} {l : List α} {i : Nat} {K : AV → Out} : @getH (l.map f) i K .mk = @okH α l[i]? (fun r => K (f r)) .mk := getO_map
theorem okO_get {α : Type} {l : List α} {i : Nat} {K : α → Out} (h : i < l.length) : @okH α l[i]? K .mk = K l[i] := by rw [List.getElem?_eq_getElem h]; rfl
attribute [go_sem ↓] okO_hid getO_hid
attribute [push_cast] okH_some okH_none getH_nil getH_zero getH_succ getH_map
theorem bw_t {b : Bool} : bw b true = b := by cases b <;> rfl
theorem bw_f {b : Bool} : bw b false = !b := by cases b <;> rfl
theorem map_drop2 {α β : Type} {f : α → β} {l : List α} {k : Nat} : (l.map f).drop k = (l.drop k).map f := List.map_drop.symm
theorem map_take2 {α β : Type} {f : α → β} {l : List α} {k : Nat} : (l.map f).take k = (l.take k).map f := List.map_take.symm
theorem take_drop_len {α : Type} {l : List α} {k : Nat} : (l.drop k).take (l.length - k) = l.drop k := List.take_of_length_le (by simp)
theorem map_append2 {α β : Type} {f : α → β} {l r : List α} : l.map f ++ r.map f = (l ++ r).map f := List.map_append.symm
theorem tmod_b (a : Int) (n : Nat) : -(n : Int) ≤ a.tmod (n + 1) ∧ a.tmod (n + 1) ≤ n := by
  have h1 := Int.tmod_lt_of_pos a (b := (n : Int) + 1) (by omega)
  have h2 := Int.tmod_lt_of_pos (-a) (b := (n : Int) + 1) (by omega)
  rw [Int.neg_tmod] at h2
  omega
theorem take_all_append {α : Type} {l r : List α} : (l ++ r).take (l.length + r.length) = l ++ r := List.take_of_length_le (by simp)
theorem ltz {i : Nat} : ((i : Int) < 0) = False := by simp
theorem ltz1 {i : Nat} : (-((i : Int) + 1) < 0) = True := by apply eq_true; omega
theorem sub_neg1 {i : Nat} : (0 - -((i : Int) + 1)) = (i : Int) + 1 := by omega
attribute [push_cast] take_all_append ltz ltz1 sub_neg1 map_append2 map_drop2 map_take2 take_drop_len
theorem all_take_succ {α : Type} {p : α → Bool} {l : List α} {j : Nat} (h : j < l.length) : (l.take (j + 1)).all p = ((l.take j).all p && p l[j]) := by rw [List.take_add_one, List.getElem?_eq_getElem h, List.all_append]; simp [Option.toList]
theorem any_take_succ {α : Type} {p : α → Bool} {l : List α} {j : Nat} (h : j < l.length) : (l.take (j + 1)).any p = ((l.take j).any p || p l[j]) := by rw [List.take_add_one, List.getElem?_eq_getElem h, List.any_append]; simp [Option.toList]
theorem okE_cons {sz : Nat} {a : AV} {l : List AV} : (∀ v ∈ a :: l, okE sz v) = (okE sz a ∧ ∀ v ∈ l, okE sz v) := by simp
theorem okE_nil {sz : Nat} : (∀ v ∈ ([] : List AV), okE sz v) = True := by simp
theorem okE_agg {sz : Nat} {cs : List AV} : okE sz (.agg cs) = (cs.length = sz ∧ allC1 cs = true) := rfl
theorem okE_int {sz : Nat} {k : IntKind} {n : Int} : okE sz (.int k n) = (1 = sz) := by simp [okE, cellsOf, allC1, C1]
theorem okE_bool {sz : Nat} {n : Bool} : okE sz (.bool n) = (1 = sz) := by simp [okE, cellsOf, allC1, C1]
theorem okE_str {sz : Nat} {n : ByteArray} : okE sz (.str n) = (1 = sz) := by simp [okE, cellsOf, allC1, C1]
theorem okE_lst {sz : Nat} {f : Bool} {z : Nat} {l : List AV} : okE sz (.lst f z l) = (1 = sz) := by simp [okE, cellsOf, allC1, C1]
theorem okE_row {sz i n o l : Nat} : okE sz (.row i n o l) = (1 = sz) := by simp [okE, cellsOf, allC1, C1]
theorem okE_loc {sz i n : Nat} : okE sz (.loc i n) = (1 = sz) := by simp [okE, cellsOf, allC1, C1]
attribute [go_sem ↓] okE_cons okE_nil
attribute [push_cast] okE_cons okE_nil okE_agg okE_int okE_bool okE_str okE_lst okE_row okE_loc
theorem ite_nat_ne {α : Type} {a b : Nat} {x y : α} (h : a ≠ b) : (if a = b then x else y) = y := if_neg h
theorem take_map_len {α β : Type} {f : α → β} {l : List α} : (l.map f).take l.length = l.map f := by rw [← List.map_take, List.take_length]
theorem toNat_succ {i : Nat} : ((i : Int) + 1).toNat = i + 1 := by omega
theorem toNat_pred {i : Nat} : ((i : Int) - 1).toNat = i - 1 := by omega
attribute [push_cast] take_map_len List.range_zero ite_nat_ne toNat_succ toNat_pred okO_get bw_t bw_f beq_int bne_int beq_list Int.toNat_natCast nn ltn

/-! ### Loops -/
def subB : Mem → Mem → Prop
  | [], _ => True
  | (k, v) :: r, b => look k b = some v ∧ subB r (delB k b)
theorem subB_nil {b : Mem} : subB [] b = True := rfl
theorem subB_cons {k : Nat} {v : Blk} {r b : Mem} : subB ((k, v) :: r) b = (look k b = some v ∧ subB r (delB k b)) := rfl
attribute [push_cast] subB_nil subB_cons Blk.obj.injEq Blk.row.injEq Blk.map.injEq
theorem look_perm {k : Nat} {v : Blk} : ∀ {b : Mem}, look k b = some v → ((k, v) :: delB k b).Perm b
  | [], h => by simp [look] at h
  | (k', u) :: r, h => by
    simp only [look] at h
    by_cases hk : k' = k
    · rw [if_pos hk] at h; injection h with h; subst h hk; simp [delB]
    · rw [if_neg hk] at h
      simp only [delB, if_neg hk]
      exact (List.Perm.swap _ _ _).trans ((look_perm h).cons _)
theorem subB_perm : ∀ {b' b : Mem}, subB b' b → ∃ r, (b' ++ r).Perm b
  | [], b, _ => ⟨b, by simp⟩
  | (k, v) :: r, b, h => by
    obtain ⟨q, hq⟩ := subB_perm h.2
    exact ⟨q, by simpa using (hq.cons (k, v)).trans (look_perm h.1)⟩
theorem weak_sub {n n' m : Nat} {t t' : List (Nat × AV)} {b b' : Mem} (ht : subL t' t) (hb : subB b' b) (hn : n ≤ n') : Weak n0 ⟨t, b, n, m⟩ ⟨t', b', n', m⟩ := by
  obtain ⟨r, hr⟩ := subB_perm hb
  exact .trans (.perm (s := ⟨t, b, n, m⟩) hr) (weak_drop ht (List.sublist_append_left _ _) hn)
/-- The end of a round. -/
def LoopEnd (n0 m N0 : Nat) {σ : Type} (St : σ → Nat → List (Nat × AV) × Mem) (Inv : σ → Prop) (μ : σ → Nat) (x : σ) (s : S) : Prop := ∃ x' N, N0 ≤ N ∧ Inv x' ∧ μ x' < μ x ∧ Weak n0 s ⟨(St x' N).1, (St x' N).2, N, m⟩
def loopE (P : Program) (n0 m N0 : Nat) {σ : Type} (St : σ → Nat → List (Nat × AV) × Mem) (Inv : σ → Prop) (μ : σ → Nat) (x : σ) (r : List Item) (Q : Exit → S → Prop) : Exit → S → Prop
  | .normal, s => LoopEnd n0 m N0 St Inv μ x s
  | e, s => @Run P n0 ⟨r, Q⟩ .mk e s
section
variable {σ : Type} {St : σ → Nat → List (Nat × AV) × Mem} {Inv : σ → Prop} {μ : σ → Nat} {x : σ} {r : List Item} {Q : Exit → S → Prop} {s : S} {m N0 : Nat}
theorem loopE_normal : loopE P n0 m N0 St Inv μ x r Q .normal s = LoopEnd n0 m N0 St Inv μ x s := rfl
theorem loopE_exit {i : Nat} : loopE P n0 m N0 St Inv μ x r Q (.exit i) s = @Run P n0 ⟨r, Q⟩ .mk (.exit i) s := rfl
theorem loopE_ret : loopE P n0 m N0 St Inv μ x r Q .ret s = @Run P n0 ⟨r, Q⟩ .mk .ret s := rfl
end
attribute [push_cast] loopE_normal loopE_exit loopE_ret
theorem loop_end {σ : Type} {St : σ → Nat → List (Nat × AV) × Mem} {Inv : σ → Prop} {μ : σ → Nat} {x : σ} {n m N0 : Nat} {t : List (Nat × AV)} {b : Mem} (x' : σ) (N : Nat) (hN : N0 ≤ N) (hI : Inv x') (hm : μ x' < μ x) (ht : subL (St x' N).1 t) (hb : subB (St x' N).2 b) (hn : n ≤ N) :
    LoopEnd n0 m N0 St Inv μ x ⟨t, b, n, m⟩ := ⟨x', N, hN, hI, hm, weak_sub ht hb hn⟩
theorem loop_by {c : Code} {r : List Item} {Q : Exit → S → Prop} {n m : Nat} {t : List (Nat × AV)} {b : Mem} {σ : Type} (St : σ → Nat → List (Nat × AV) × Mem) (Inv : σ → Prop) (μ : σ → Nat) (x0 : σ) (N0 : Nat) (h0 : Inv x0) (ht : subL (St x0 N0).1 t) (hb : subB (St x0 N0).2 b) (hn : n ≤ N0)
    (step : ∀ x N, N0 ≤ N → Inv x → @Run P n0 ⟨[.code c], loopE P n0 m N0 St Inv μ x r Q⟩ .mk .normal ⟨(St x N).1, (St x N).2, N, m⟩) : @LoopR P n0 ⟨c, r, Q⟩ .mk ⟨t, b, n, m⟩ := by
  refine loop_rule (fun k s => ∃ x N, N0 ≤ N ∧ k = μ x ∧ Inv x ∧ s = ⟨(St x N).1, (St x N).2, N, m⟩) (μ x0) ⟨(St x0 N0).1, (St x0 N0).2, N0, m⟩ (weak_sub ht hb hn) ⟨x0, N0, Nat.le_refl _, rfl, h0, rfl⟩ ?_
  rintro k s ⟨x, N, hN, rfl, hI, rfl⟩
  have h := step x N hN hI
  unfold Run at h ⊢
  refine codeW_mono (fun e s hq => ?_) h
  cases e with
  | normal => obtain ⟨x', N', h0, h1, h2, h3⟩ := hq; exact ⟨μ x', h2, _, h3, x', N', h0, rfl, h1, rfl⟩
  | _ => exact hq
theorem cast0 : ((0 : Nat) : Int) = 0 := rfl
attribute [push_cast] cast0

/-- A round of a loop over a list. -/
theorem fold_take {α β : Type} {f : β → α → β} {b : β} {l : List α} {i : Nat} {a : α} (h : l[i]? = some a) : (l.take (i + 1)).foldl f b = f ((l.take i).foldl f b) a := by
  rw [List.take_add_one, h]; simp
end Go.Ev

/-
Two ways that come together again: one state for both.
-/
set_option linter.unusedVariables false
namespace Go.Ev
open Classical
noncomputable section
def merge1 (b : Bool) (a c : AV) : Option AV := if a = c then some a else match a, c with
  | .int k x, .int k' y => if k = k' then some (.int k (if b = true then x else y)) else none
  | .bool x, .bool y => some (.bool (if b = true then x else y))
  | .str x, .str y => some (.str (if b = true then x else y))
  | .row i n o l, .row i' n' o' l' => if i = i' then some (.row i (if b = true then n else n') (if b = true then o else o') (if b = true then l else l')) else none
  | .lst f z e, .lst f' z' e' => if f = f' ∧ z = z' then some (.lst f z (if b = true then e else e')) else none
  | _, _ => none
def mergeL (b : Bool) : List AV → List AV → Option (List AV)
  | [], [] => some []
  | a :: r, c :: q => (merge1 b a c).bind fun v => (mergeL b r q).map fun l => v :: l
  | _, _ => none
def mergeV (b : Bool) (a c : AV) : Option AV := if a = c then some a else match a, c with
  | .agg cs, .agg ds => (mergeL b cs ds).map .agg
  | a, c => merge1 b a c
def mergeB (b : Bool) : Blk → Blk → Option Blk
  | .obj e, .obj e' => (mergeV b e e').map .obj
  | .row z els fr, .row z' els' fr' => if z = z' ∧ fr = fr' then some (.row z (if b = true then els else els') fr) else none
  | .map ks vs, .map ks' vs' => some (.map (if b = true then ks else ks') (if b = true then vs else vs'))
  | _, _ => none
def mergeT (b : Bool) (t1 t2 : List (Nat × AV)) : List Nat → List (Nat × AV)
  | [] => []
  | k :: r => (k, ((look k t1).bind fun a => (look k t2).bind fun c => mergeV b a c).getD .undef) :: mergeT b t1 t2 r
def consM (id : Nat) (o : Option Blk) (m : Mem) : Mem := match o with
  | some x => (id, x) :: m
  | none => m
def mergeM (b : Bool) (b1 b2 : Mem) : List Nat → Mem
  | [] => []
  | id :: r => consM id ((look id b1).bind fun x => (look id b2).bind fun y => mergeB b x y) (mergeM b b1 b2 r)
end

theorem merge1_ok {b : Bool} {a c v : AV} (h : merge1 b a c = some v) : (b = true → v = a) ∧ (b = false → v = c) := by
  unfold merge1 at h
  split at h
  · rename_i he; injection h with h; subst h he; exact ⟨fun _ => rfl, fun _ => rfl⟩
  · split at h
    · split at h
      · rename_i hk; subst hk; injection h with h; subst h; exact ⟨fun e => by simp [e], fun e => by simp [e]⟩
      · cases h
    · injection h with h; subst h; exact ⟨fun e => by simp [e], fun e => by simp [e]⟩
    · injection h with h; subst h; exact ⟨fun e => by simp [e], fun e => by simp [e]⟩
    · split at h
      · rename_i hk; subst hk; injection h with h; subst h; exact ⟨fun e => by simp [e], fun e => by simp [e]⟩
      · cases h
    · split at h
      · rename_i hk; obtain ⟨rfl, rfl⟩ := hk; injection h with h; subst h; exact ⟨fun e => by simp [e], fun e => by simp [e]⟩
      · cases h
    · cases h
theorem mergeL_ok {b : Bool} : ∀ {aas cs vs : List AV}, mergeL b aas cs = some vs → (b = true → vs = aas) ∧ (b = false → vs = cs)
  | [], [], vs, h => by injection h with h; subst h; exact ⟨fun _ => rfl, fun _ => rfl⟩
  | a :: r, c :: q, vs, h => by
    simp only [mergeL, Option.bind_eq_some_iff, Option.map_eq_some_iff] at h
    obtain ⟨v, h1, l, h2, rfl⟩ := h
    have i1 := merge1_ok h1
    have i2 := mergeL_ok h2
    exact ⟨fun e => by rw [i1.1 e, i2.1 e], fun e => by rw [i1.2 e, i2.2 e]⟩
  | [], _ :: _, _, h => by cases h
  | _ :: _, [], _, h => by cases h
theorem mergeV_ok {b : Bool} {a c v : AV} (h : mergeV b a c = some v) : (b = true → v = a) ∧ (b = false → v = c) := by
  unfold mergeV at h
  split at h
  · rename_i he; injection h with h; subst h he; exact ⟨fun _ => rfl, fun _ => rfl⟩
  · split at h
    · simp only [Option.map_eq_some_iff] at h
      obtain ⟨l, h, rfl⟩ := h
      have i := mergeL_ok h
      exact ⟨fun e => by rw [i.1 e], fun e => by rw [i.2 e]⟩
    · exact merge1_ok h
theorem mergeB_ok {b : Bool} {a c v : Blk} (h : mergeB b a c = some v) : (b = true → v = a) ∧ (b = false → v = c) := by
  unfold mergeB at h
  split at h
  · simp only [Option.map_eq_some_iff] at h
    obtain ⟨l, h, rfl⟩ := h
    have i := mergeV_ok h
    exact ⟨fun e => by rw [i.1 e], fun e => by rw [i.2 e]⟩
  · split at h
    · rename_i hk; obtain ⟨rfl, rfl⟩ := hk; injection h with h; subst h; exact ⟨fun e => by simp [e], fun e => by simp [e]⟩
    · cases h
  · injection h with h; subst h; exact ⟨fun e => by simp [e], fun e => by simp [e]⟩
  · cases h

/-- The same but for some slots that were written. -/
def strip (ks : List Nat) (t1 t : List (Nat × AV)) : Prop := ∃ q, t1 = q ++ t ∧ ∀ x ∈ q, x.1 ∈ ks
theorem strip_refl {ks : List Nat} {t : List (Nat × AV)} : strip ks t t := ⟨[], rfl, by simp⟩
theorem strip_cons {ks : List Nat} {k : Nat} {v : AV} {r t : List (Nat × AV)} (hk : ks.contains k = true) (h : strip ks r t) : strip ks ((k, v) :: r) t := by
  obtain ⟨q, rfl, hq⟩ := h
  exact ⟨(k, v) :: q, rfl, fun x hx => by
    cases hx with
    | head => simpa using hk
    | tail _ hx => exact hq x hx⟩
theorem strip_look {ks : List Nat} {t1 t : List (Nat × AV)} (h : strip ks t1 t) {k : Nat} (hk : k ∉ ks) : look k t1 = look k t := by
  obtain ⟨q, rfl, hq⟩ := h
  induction q with
  | nil => rfl
  | cons x q ih =>
    obtain ⟨j, v⟩ := x
    have : j ≠ k := fun e => hk (e ▸ hq (j, v) (by simp))
    simp only [List.cons_append, look, if_neg this]
    exact ih fun x hx => hq x (by simp [hx])
theorem look_mergeT {b : Bool} {t1 t2 t : List (Nat × AV)} {k : Nat} {v : AV} : ∀ {ks : List Nat}, look k (mergeT b t1 t2 ks ++ t) = some v →
    (k ∈ ks ∧ v = ((look k t1).bind fun a => (look k t2).bind fun c => mergeV b a c).getD .undef) ∨ (k ∉ ks ∧ look k t = some v)
  | [], h => .inr ⟨by simp, h⟩
  | j :: r, h => by
    simp only [mergeT, List.cons_append, look] at h
    split at h
    · rename_i hj; subst hj; injection h with h; exact .inl ⟨by simp, h.symm⟩
    · rename_i hj
      rcases look_mergeT h with ⟨h1, h2⟩ | ⟨h1, h2⟩
      · exact .inl ⟨by simp [h1], h2⟩
      · exact .inr ⟨by simp [h1, Ne.symm hj], h2⟩
theorem merged {b : Bool} {t1 t2 : List (Nat × AV)} {k : Nat} {v : AV} (h : v = ((look k t1).bind fun a => (look k t2).bind fun c => mergeV b a c).getD .undef) : v = .undef ∨ (b = true → look k t1 = some v) ∧ (b = false → look k t2 = some v) := by
  cases h1 : look k t1 with
  | none => left; simpa [h1] using h
  | some a =>
    cases h2 : look k t2 with
    | none => left; simpa [h1, h2] using h
    | some c =>
      simp only [h1, h2, Option.bind_some] at h
      cases h3 : mergeV b a c with
      | none => left; simpa [h3] using h
      | some u =>
        rw [h3] at h
        simp only [Option.getD_some] at h
        subst h
        have i := mergeV_ok h3
        exact .inr ⟨fun e => by rw [i.1 e], fun e => by rw [i.2 e]⟩
def apart1 (k : Nat) : List Nat → Prop
  | [] => True
  | j :: r => j ≠ k ∧ apart1 k r
theorem apart1_mem {k : Nat} : ∀ {r : List Nat}, apart1 k r → ∀ j ∈ r, j ≠ k
  | j :: r, h, i, hi => by
    cases hi with
    | head => exact h.1
    | tail _ hi => exact apart1_mem h.2 i hi
def apartL : List Nat → Prop
  | [] => True
  | k :: r => apart1 k r ∧ apartL r
theorem apart_nil : apartL [] = True := rfl
theorem apart_cons {k : Nat} {r : List Nat} : apartL (k :: r) = (apart1 k r ∧ apartL r) := rfl
theorem apart1_nil {k : Nat} : apart1 k [] = True := rfl
theorem apart1_cons {k j : Nat} {r : List Nat} : apart1 k (j :: r) = (¬ j = k ∧ apart1 k r) := rfl
theorem look_delB {k j : Nat} (h : j ≠ k) : ∀ {b : Mem}, look j (delB k b) = look j b
  | [] => rfl
  | (i, u) :: r => by
    simp only [delB, look]
    by_cases hi : i = k
    · rw [if_pos hi, if_neg (by omega)]
    · rw [if_neg hi]; simp only [look]; rw [look_delB h]
theorem subB_del {k : Nat} : ∀ {m b : Mem}, (∀ x ∈ m, x.1 ≠ k) → subB m b → subB m (delB k b)
  | [], _, _, _ => trivial
  | (j, v) :: r, b, hm, h => by
    have hj : j ≠ k := hm (j, v) (by simp)
    refine ⟨by rw [look_delB hj]; exact h.1, ?_⟩
    have hc : delB j (delB k b) = delB k (delB j b) := by
      clear h hm
      induction b with
      | nil => rfl
      | cons x b ih =>
        obtain ⟨i, u⟩ := x
        simp only [delB]
        by_cases h1 : i = k
        · subst h1
          rw [if_pos rfl, if_neg (Ne.symm hj)]; simp only [delB, if_true]
        · rw [if_neg h1]
          by_cases h2 : i = j
          · subst h2; simp only [delB, if_true]
          · simp only [delB, if_neg h2, if_neg h1, ih]
    rw [hc]
    exact subB_del (fun x hx => hm x (by simp [hx])) h.2
theorem mergeM_mem {b : Bool} {b1 b2 : Mem} : ∀ {ids : List Nat}, ∀ x ∈ mergeM b b1 b2 ids, x.1 ∈ ids
  | [], x, h => by simp [mergeM] at h
  | id :: r, x, h => by
    simp only [mergeM, consM] at h
    split at h
    · cases h with
      | head => simp
      | tail _ h => simp [mergeM_mem x h]
    · simp [mergeM_mem x h]
theorem mergeM_sub {b : Bool} {b1 b2 b0 : Mem} (hb : (b = true → b0 = b1) ∧ (b = false → b0 = b2)) : ∀ {ids : List Nat}, apartL ids → subB (mergeM b b1 b2 ids) b0
  | [], _ => trivial
  | id :: r, h => by
    simp only [mergeM, consM]
    split
    · rename_i v hv
      simp only [Option.bind_eq_some_iff] at hv
      obtain ⟨x, hx, y, hy, hv⟩ := hv
      have i := mergeB_ok hv
      refine ⟨?_, subB_del (fun z hz => apart1_mem h.1 z.1 (mergeM_mem z hz)) (mergeM_sub hb h.2)⟩
      cases b with
      | true => rw [hb.1 rfl, i.1 rfl]; exact hx
      | false => rw [hb.2 rfl, i.2 rfl]; exact hy
    · exact mergeM_sub hb h.2

section
variable {P : Program} {n0 : Nat} {r : List Item} {Q : Exit → S → Prop}
theorem weak_merge {b : Bool} {ks : List Nat} {t t1 t2 t0 : List (Nat × AV)} {b1 b2 b0 : Mem} {ids : List Nat} {n n' m : Nat} (ht : (b = true → t0 = t1) ∧ (b = false → t0 = t2)) (hb : (b = true → b0 = b1) ∧ (b = false → b0 = b2))
    (h1 : strip ks t1 t) (h2 : strip ks t2 t) (hi : apartL ids) (hn : n ≤ n') : Weak n0 ⟨t0, b0, n, m⟩ ⟨mergeT b t1 t2 ks ++ t, mergeM b b1 b2 ids, n', m⟩ := by
  obtain ⟨q, hq⟩ := subB_perm (mergeM_sub hb hi)
  refine .trans (.perm (s := ⟨t0, b0, n, m⟩) hq) (.drop rfl (fun k v hk => ?_) (List.sublist_append_left _ _) hn)
  show v = .undef ∨ look k t0 = some v
  rcases look_mergeT hk with ⟨hm, hv⟩ | ⟨hm, hv⟩
  · rcases merged hv with h | ⟨h3, h4⟩
    · exact .inl h
    · right
      cases b with
      | true => rw [ht.1 rfl]; exact h3 rfl
      | false => rw [ht.2 rfl]; exact h4 rfl
  · right
    cases b with
    | true => rw [ht.1 rfl, strip_look h1 hm]; exact hv
    | false => rw [ht.2 rfl, strip_look h2 hm]; exact hv
/-- What is said of a way's end. -/
def endQ (s1 : S) : Exit → S → Prop := fun e s => e = .normal ∧ s = s1
theorem endQ_normal {s s1 : S} : endQ s1 .normal s = (s = s1) := by simp [endQ]
theorem cond_merge0 {x y : Code} {b : Bool} {t t1 t2 : List (Nat × AV)} {b0 b1 b2 : Mem} {n n1 n2 m : Nat} (ks : List Nat)
    (h1 : b = true → @Run P n0 ⟨[.code x], endQ ⟨t1, b1, n1, m⟩⟩ .mk .normal ⟨t, b0, n, m⟩) (h2 : b = false → @Run P n0 ⟨[.code y], endQ ⟨t2, b2, n2, m⟩⟩ .mk .normal ⟨t, b0, n, m⟩)
    (hs1 : strip ks t1 t) (hs2 : strip ks t2 t) (hi : apartL (b0.map (·.1)))
    (hk : @Run P n0 ⟨r, Q⟩ .mk .normal ⟨mergeT b t1 t2 ks ++ t, mergeM b b1 b2 (b0.map (·.1)), n1 + n2, m⟩) : @Branch P n0 ⟨x, y, r, Q⟩ .mk ⟨t, b0, n, m⟩ (some b) := by
  refine ⟨b, rfl, .inr ⟨_, fun hb => ?_, fun hb => ?_, hk⟩⟩
  · have := h1 hb
    rw [run_one] at this ⊢
    refine codeW_mono (fun e s hq => ?_) this
    obtain ⟨rfl, rfl⟩ := hq
    exact ⟨rfl, weak_merge ⟨fun _ => rfl, fun e => (by rw [hb] at e; cases e)⟩ ⟨fun _ => rfl, fun e => (by rw [hb] at e; cases e)⟩ hs1 hs2 hi (by omega)⟩
  · have := h2 hb
    rw [run_one] at this ⊢
    refine codeW_mono (fun e s hq => ?_) this
    obtain ⟨rfl, rfl⟩ := hq
    exact ⟨rfl, weak_merge ⟨fun e => (by rw [hb] at e; cases e), fun _ => rfl⟩ ⟨fun e => (by rw [hb] at e; cases e), fun _ => rfl⟩ hs1 hs2 hi (by omega)⟩
end

section
variable {P : Program} {n0 : Nat} {r : List Item} {Q : Exit → S → Prop}
/-- The slots that code writes. -/
def wrO : List Oper → List Nat
  | [] => []
  | o :: r => match o.dst with
    | some d => d :: wrO r
    | none => wrO r
def wr : Code → List Nat
  | .region _ ops _ => wrO ops.toList
  | .seq a b => wr a ++ wr b
  | .cond _ a b => wr a ++ wr b
  | .block _ c => wr c
  | .loop c => wr c
  | _ => []
def wrs (x y : Code) : List Nat := wr x ++ wr y
theorem toList_lit {α : Type} {l : List α} : (List.toArray l).toList = l := by simp
theorem cond_merge {x y : Code} {b : Bool} {t t1 t2 : List (Nat × AV)} {b0 b1 b2 : Mem} {n n1 n2 m : Nat} {ks : List Nat}
    (h1 : b = true → @Run P n0 ⟨[.code x], endQ ⟨t1, b1, n1, m⟩⟩ .mk .normal ⟨t, b0, n, m⟩) (h2 : b = false → @Run P n0 ⟨[.code y], endQ ⟨t2, b2, n2, m⟩⟩ .mk .normal ⟨t, b0, n, m⟩)
    (hw : wrs x y = ks) (hs1 : strip ks t1 t) (hs2 : strip ks t2 t) (hi : apartL (b0.map (·.1)))
    (hk : @Run P n0 ⟨r, Q⟩ .mk .normal ⟨mergeT b t1 t2 ks ++ t, mergeM b b1 b2 (b0.map (·.1)), n1 + n2, m⟩) : @Branch P n0 ⟨x, y, r, Q⟩ .mk ⟨t, b0, n, m⟩ (some b) :=
  cond_merge0 ks h1 h2 hs1 hs2 hi hk
end

theorem merge1_same {b : Bool} {a : AV} : merge1 b a a = some a := by simp [merge1]
theorem mergeV_same {b : Bool} {a : AV} : mergeV b a a = some a := by simp [mergeV]
theorem mergeV_int {b : Bool} {k : IntKind} {x y : Int} : mergeV b (.int k x) (.int k y) = some (.int k (if b = true then x else y)) := by
  unfold mergeV; split
  · rename_i h; injection h with _ h; subst h; simp
  · simp only [merge1]; split
    · rename_i h; injection h with _ h; subst h; simp
    · simp
theorem mergeV_bool {b x y : Bool} : mergeV b (.bool x) (.bool y) = some (.bool (if b = true then x else y)) := by
  unfold mergeV; split
  · rename_i h; injection h with h; subst h; simp
  · simp only [merge1]; split
    · rename_i h; injection h with h; subst h; simp
    · rfl
theorem mergeV_str {b : Bool} {x y : List UInt8} : mergeV b (.str (ofL x)) (.str (ofL y)) = some (.str (ofL (if b = true then x else y))) := by
  unfold mergeV; split
  · rename_i h; injection h with h; rw [ofL_inj] at h; subst h; simp
  · simp only [merge1]; split
    · rename_i h; injection h with h; rw [ofL_inj] at h; subst h; simp
    · cases b <;> rfl
theorem merge1_int {b : Bool} {k : IntKind} {x y : Int} : merge1 b (.int k x) (.int k y) = some (.int k (if b = true then x else y)) := by
  simp only [merge1]; split
  · rename_i h; injection h with _ h; subst h; simp
  · simp
theorem merge1_bool {b x y : Bool} : merge1 b (.bool x) (.bool y) = some (.bool (if b = true then x else y)) := by
  simp only [merge1]; split
  · rename_i h; injection h with h; subst h; simp
  · rfl
theorem merge1_str {b : Bool} {x y : List UInt8} : merge1 b (.str (ofL x)) (.str (ofL y)) = some (.str (ofL (if b = true then x else y))) := by
  simp only [merge1]; split
  · rename_i h; injection h with h; rw [ofL_inj] at h; subst h; simp
  · cases b <;> rfl
theorem merge1_lst {b : Bool} {f : Bool} {z : Nat} {x y : List AV} : merge1 b (.lst f z x) (.lst f z y) = some (.lst f z (if b = true then x else y)) := by
  simp only [merge1]; split
  · rename_i h; injection h with _ _ h; subst h; simp
  · simp
theorem mergeV_lst {b : Bool} {f : Bool} {z : Nat} {x y : List AV} : mergeV b (.lst f z x) (.lst f z y) = some (.lst f z (if b = true then x else y)) := by
  unfold mergeV; split
  · rename_i h; injection h with _ _ h; subst h; simp
  · exact merge1_lst
theorem mergeV_row {b : Bool} {i n o l n' o' l' : Nat} : mergeV b (.row i n o l) (.row i n' o' l') = some (.row i (if b = true then n else n') (if b = true then o else o') (if b = true then l else l')) := by
  have h1 : merge1 b (.row i n o l) (.row i n' o' l') = some (.row i (if b = true then n else n') (if b = true then o else o') (if b = true then l else l')) := by
    simp only [merge1]; split
    · rename_i h; injection h with _ h1 h2 h3; subst h1 h2 h3; simp
    · simp
  unfold mergeV; split
  · rename_i h; injection h with _ h1 h2 h3; subst h1 h2 h3; simp
  · exact h1
theorem mergeV_agg {b : Bool} {cs ds : List AV} : mergeV b (.agg cs) (.agg ds) = (if cs = ds then some (.agg cs) else (mergeL b cs ds).map .agg) := by
  unfold mergeV
  by_cases h : cs = ds
  · subst h; simp
  · rw [if_neg (by intro e; injection e with e; exact h e), if_neg h]
theorem mergeL_same {b : Bool} : ∀ {cs : List AV}, mergeL b cs cs = some cs
  | [] => rfl
  | c :: cs => by simp [mergeL, merge1_same, mergeL_same]
theorem mergeV_agg' {b : Bool} {cs ds : List AV} : mergeV b (.agg cs) (.agg ds) = (mergeL b cs ds).map .agg := by
  rw [mergeV_agg]; split
  · rename_i h; subst h; rw [mergeL_same]; rfl
  · rfl
theorem mergeL_cons {b : Bool} {a c : AV} {r q : List AV} : mergeL b (a :: r) (c :: q) = (merge1 b a c).bind fun v => (mergeL b r q).map fun l => v :: l := rfl
theorem mergeL_nil {b : Bool} : mergeL b [] [] = some [] := rfl
theorem mergeB_same {b : Bool} {x : Blk} : mergeB b x x = some x := by cases x <;> simp [mergeB, mergeV_same]
theorem mergeB_obj {b : Bool} {e e' : AV} : mergeB b (.obj e) (.obj e') = (mergeV b e e').map .obj := rfl
theorem mergeB_row {b : Bool} {z : Nat} {x y : List AV} {fr : Bool} : mergeB b (.row z x fr) (.row z y fr) = some (.row z (if b = true then x else y) fr) := by simp [mergeB]
theorem mergeB_map {b : Bool} {k v k' v' : List AV} : mergeB b (.map k v) (.map k' v') = some (.map (if b = true then k else k') (if b = true then v else v')) := rfl
theorem mergeT_nil {b : Bool} {t1 t2 : List (Nat × AV)} : mergeT b t1 t2 [] = [] := rfl
theorem mergeT_cons {b : Bool} {t1 t2 : List (Nat × AV)} {k : Nat} {r : List Nat} : mergeT b t1 t2 (k :: r) = (k, ((look k t1).bind fun a => (look k t2).bind fun c => mergeV b a c).getD .undef) :: mergeT b t1 t2 r := rfl
theorem mergeM_nil {b : Bool} {t1 t2 : Mem} : mergeM b t1 t2 [] = [] := rfl
theorem mergeM_cons {b : Bool} {b1 b2 : Mem} {id : Nat} {r : List Nat} : mergeM b b1 b2 (id :: r) = consM id ((look id b1).bind fun x => (look id b2).bind fun y => mergeB b x y) (mergeM b b1 b2 r) := rfl
theorem consM_some {id : Nat} {x : Blk} {m : Mem} : consM id (some x) m = (id, x) :: m := rfl
theorem consM_none {id : Nat} {m : Mem} : consM id none m = m := rfl
attribute [push_cast] merge1_int merge1_bool merge1_str merge1_lst mergeV_int mergeV_bool mergeV_str mergeV_lst mergeV_row mergeV_agg' mergeL_cons mergeL_nil mergeB_obj mergeB_row mergeB_map mergeT_nil mergeT_cons mergeM_nil mergeM_cons consM_some consM_none endQ_normal apart_nil apart_cons apart1_nil apart1_cons
attribute [push_cast high] merge1_same mergeV_same mergeB_same
end Go.Ev
