/-
Slices and structs that are built.
-/
import Derived.Test.YthglbpibfhfgnaaGreatDoorEvBuild
set_option linter.unusedVariables false
set_option linter.unusedSimpArgs false
namespace Go.Ev
variable {Sp : FuncId → List AV → AV → List AV → Prop} {P : Program} {E : Env} {s : S} {a : Act} {w : World} {L : List Nat} {K : S → AV → Prop}

theorem foldl_set : ∀ (cs : List Value) (k off : Nat) (arr : Array Value), off + k + cs.length ≤ arr.size →
    ((cs.zipIdx k).foldl (fun (x : Array Value) (p : Value × Nat) => x.setIfInBounds (off + p.2) p.1) arr).toList = arr.toList.take (off + k) ++ (cs ++ arr.toList.drop (off + k + cs.length))
  | [], k, off, arr, _ => by simp
  | c :: cs, k, off, arr, h => by
    simp only [List.length_cons] at h
    rw [List.zipIdx_cons, List.foldl_cons, foldl_set cs (k + 1) off _ (by simp; omega)]
    have e1 : (arr.setIfInBounds (off + k) c).toList = arr.toList.take (off + k) ++ (c :: arr.toList.drop (off + k + 1)) := by
      rw [Array.toList_setIfInBounds, List.set_eq_take_append_cons_drop, if_pos (by simp; omega)]
    have hlen : (arr.toList.take (off + k)).length = off + k := by simp; omega
    rw [e1]
    have e3 : (arr.toList.take (off + k) ++ c :: arr.toList.drop (off + k + 1)).take (off + (k + 1)) = arr.toList.take (off + k) ++ [c] := by
      rw [List.take_append, hlen, List.take_of_length_le (by omega), show off + (k + 1) - (off + k) = 1 by omega]
      simp
    have e4 : (arr.toList.take (off + k) ++ c :: arr.toList.drop (off + k + 1)).drop (off + (k + 1) + cs.length) = arr.toList.drop (off + k + (cs.length + 1)) := by
      rw [List.drop_append, hlen, List.drop_eq_nil_of_le (by omega), List.nil_append, show off + (k + 1) + cs.length - (off + k) = cs.length + 1 by omega, List.drop_succ_cons, List.drop_drop]
      congr 1; omega
    rw [e3, e4]
    simp

theorem fill_one {place : Nat → Option (Nat × Nat)} {cells : Array Value} {i off size : Nat} {v : Value} {rest : List (Nat × Value)} (hp : place i = some (off, size)) (hs : v.cells.size = size) (hl : off + size ≤ cells.size) :
    Instr.fill place cells ((i, v) :: rest) = Instr.fill place (cells.toList.take off ++ (v.cells.toList ++ cells.toList.drop (off + size))).toArray rest := by
  have h1 := foldl_set v.cells.toList 0 off cells (by simp; omega)
  simp only [Instr.fill, hp]
  have hc : ¬ ((v.cells.size ≠ size || off + v.cells.size > cells.size) = true) := by simp; omega
  rw [if_neg hc]
  congr 1
  rw [← Array.foldl_toList, Array.toList_zipIdx]
  have : ∀ x y : Array Value, x.toList = y.toList → x = y := fun x y h => Array.ext' h
  refine this _ _ ?_
  simp only [Nat.add_zero, Array.length_toList, hs] at h1
  simpa using h1

theorem fill_all {size : Nat} : ∀ (vals : List Value) (k : Nat) (pre post : List Value), (∀ v ∈ vals, v.cells.size = size) → pre.length = k * size → post.length = vals.length * size →
    Instr.fill (fun i => some (i * size, size)) (pre ++ post).toArray ((List.range' k vals.length).zip vals) = some (pre ++ vals.flatMap fun v => v.cells.toList).toArray
  | [], k, pre, post, _, _, h => by
    obtain rfl := List.eq_nil_of_length_eq_zero (by simpa using h)
    simp [Instr.fill]
  | v :: vals, k, pre, post, hv, hp, h => by
    have hvs := hv v (by simp)
    simp only [List.length_cons, Nat.add_mul, Nat.one_mul] at h
    rw [List.length_cons, List.range'_succ, List.zip_cons_cons, fill_one (off := k * size) (size := size) rfl hvs (by simp; omega)]
    have e1 : (pre ++ post).toArray.toList.take (k * size) = pre := by simp only [List.toList_toArray]; rw [← hp, List.take_left]
    have e2 : (pre ++ post).toArray.toList.drop (k * size + size) = post.drop size := by
      simp only [List.toList_toArray]; rw [← hp, ← List.drop_drop, List.drop_left]
    rw [e1, e2, ← List.append_assoc, fill_all vals (k + 1) (pre ++ v.cells.toList) (post.drop size) (fun u hu => hv u (by simp [hu])) (by simp [hp, hvs, Nat.add_mul]) (by simp; omega)]
    simp

theorem fields_eval (hR : R E s a w L) : ∀ {ps : List (Nat × Operand)} {fs : List (Nat × AV)}, fieldsOf s ps = some fs → fs.map (·.1) = ps.map (·.1) ∧ RepL E (fs.map (·.2)) (ps.map fun p => a.eval p.2) []
  | [], fs, h => by simp [fieldsOf] at h; subst h; exact ⟨rfl, .nil⟩
  | p :: ps, fs, h => by
    simp only [fieldsOf, Option.bind_eq_some_iff, Option.map_eq_some_iff] at h
    obtain ⟨v, hv, q, hq, rfl⟩ := h
    obtain ⟨h1, h2⟩ := fields_eval hR hq
    exact ⟨by simp [h1], .cons (l := []) (m := []) (hR.eval hv) h2⟩

theorem flat_cells {sz : Nat} : ∀ {es : List AV} {vs : List Value}, RepL E es vs [] → (∀ e ∈ es, okE sz e) → RepL E (flat es) (vs.flatMap fun v => v.cells.toList) [] ∧ ∀ v ∈ vs, v.cells.size = sz
  | [], vs, h, _ => by cases h; exact ⟨.nil, by simp⟩
  | e :: es, vs, h, hz => by
    obtain ⟨v, vs', l1, l2, rfl, hl, h1, h2⟩ := h.inv
    obtain ⟨rfl, rfl⟩ : l1 = [] ∧ l2 = [] := by simpa using hl.symm
    obtain ⟨g1, g2⟩ := flat_cells h2 fun x hx => hz x (by simp [hx])
    have he := hz e (by simp)
    have hc := h1.cells he.2
    refine ⟨?_, fun u hu => ?_⟩
    · have := hc.append g1
      simpa [flat] using this
    · rcases List.mem_cons.1 hu with rfl | hu
      · have := hc.length; rw [he.1] at this; simpa using this.symm
      · exact g2 u hu

theorem zip_parts {ps : List (Nat × Operand)} {n : Nat} (ev : Operand → Value) (h : ps.map (·.1) = List.range n) (hn : ps.length = n) : (ps.map fun p => (p.1, ev p.2)) = (List.range' 0 n).zip (ps.map fun p => ev p.2) := by
  rw [← List.range_eq_range', ← h, List.zip_map']

/-- A new row of this activation. -/
theorem row_alloc (hR : R E s a w L) {e : TypeId} {sz : Nat} {els : List AV} {w1 : World} (hw : w1.heap = w.heap) (ho : w1.os = w.os) (ht : w1.tape = w.tape) (hu : w1.output = w.output) {cells : Array Value} {cap : Nat} {vs : List Value}
    (hz : ∀ e ∈ els, okE sz e) (hv : RepL E (flat els) vs []) (hc : cells.toList.take (els.length * sz) = vs) (hsz : cells.size = cap * sz) (hle : els.length ≤ cap) (hm : els.length ≤ MX) :
    ∃ E' L', R E' { s with b := (s.n, .row sz els false) :: s.b, n := s.n + 1 } a (w1.alloc (.cells cells e)) L' ∧ Move E w L E' (w1.alloc (.cells cells e)) L' ∧
      Rep E' (.row s.n els.length 0 els.length) (.slice (some ⟨w.heap.size, 0, none⟩) els.length cap) [] := by
  let x : Loc := ⟨false, some w.heap.size, cap, els.length, sz⟩
  obtain ⟨hmv, hext, hnew⟩ := alloc_move hR w1 hw ho ht hu (.cells cells e) (g := updG E.g s.n x) (fun id y hy => ⟨y, updG_old hR.gn id y hy, .inl rfl⟩) (L' := L) hR.own.nodup fun _ h => h
  refine ⟨_, _, hR.step hmv (b := (s.n, .row sz els false) :: s.b) (n := s.n + 1) ?_ ?_ (updG_lt hR.gn), hmv, ?_⟩
  · have hb : BlkRep { h := (w1.alloc (.cells cells e)).heap, st := E.st, g := updG E.g s.n x } s.n (.row sz els false) [w.heap.size] :=
      .row (x := x) updG_new rfl rfl rfl rfl hnew (by intro k _ hk; exact Nat.not_lt_zero _ hk.2) hsz hle hm hz (by rw [hc]; exact hv.ext (hext [] (by simp)))
    exact Blks.cons (l := [w.heap.size]) hb (hR.blk.ext (hext L fun _ h => h) fun id hid => by
      have := hR.keysLt id hid
      simp only [updG, if_neg (show ¬ id = s.n by omega)])
  · simp only [List.map_cons, List.nodup_cons]
    exact ⟨fun hm => by have := hR.keysLt _ hm; omega, hR.keys⟩
  · exact .row (l := x) updG_new rfl (Nat.le_refl _) ⟨_, _, rfl⟩ fun _ => ⟨_, rfl, fun _ => by simp [x]⟩

theorem buildSlice_did (hR : R E s a w L) {t e : TypeId} {n : Nat} {ps : List (Nat × Operand)} {fs : List (Nat × AV)} (hk : kindT P t = .slice e) (hf : fieldsOf s ps = some fs)
    (h : outW Sp (buildSliceO s (zok P e) (szT P e) n (fs.map (·.1)) (frzL s.b (fs.map (·.2)))) K) :
    Did E s a w L K ((Instr.buildSlice t n (ps.map fun p => (p.1, a.eval p.2)).toArray).run P w) := by
  obtain ⟨⟨hzk, hn, hix, hbound, hmx, hfr, hok⟩, hK⟩ := h
  obtain ⟨hf1, hf2⟩ := fields_eval hR hf
  obtain ⟨E1, L1, hR1, hm1, hr1, _⟩ := frzL_ok hR hf2 hfr
  obtain ⟨i, z, hi, hz, hzs, hipos, hisz, hiby⟩ := zok_is hzk
  have hu := kind_slice hk
  obtain ⟨g1, g2⟩ := flat_cells hr1 hok
  have hpl : (ps.map fun p => a.eval p.2).length = n := by rw [← hr1.length, hn]
  have hpl' : ps.length = n := by simpa using hpl
  have hcs : ((ps.map fun p => a.eval p.2).flatMap fun v => v.cells.toList).length = n * szT P e := by
    rw [← g1.length, flat_len hok, ← hn]
  have hrun : (Instr.buildSlice t n (ps.map fun p => (p.1, a.eval p.2)).toArray).run P w = .ok (.slice (some ⟨w.heap.size, 0, none⟩) n n) (w.alloc (.cells ((ps.map fun p => a.eval p.2).flatMap fun v => v.cells.toList).toArray e)) := by
    have hfill : Instr.fill (fun i => some (i * szT P e, szT P e)) ((Array.range (n * szT P e)).map (fun j => (if n * szT P e = 0 then #[] else z.cells)[j % (if n * szT P e = 0 then #[] else z.cells).size]!)) (ps.map fun p => (p.1, a.eval p.2)) =
        some ((ps.map fun p => a.eval p.2).flatMap fun v => v.cells.toList).toArray := by
      rw [zip_parts a.eval (hf1.symm.trans hix) hpl']
      have := fill_all (size := szT P e) (ps.map fun p => a.eval p.2) 0 [] (((Array.range (n * szT P e)).map (fun j => (if n * szT P e = 0 then #[] else z.cells)[j % (if n * szT P e = 0 then #[] else z.cells).size]!)).toList) g2 (by simp) (by simp [hpl'])
      rw [List.length_map, hpl', List.nil_append, Array.toArray_toList, List.nil_append] at this
      exact this
    have hnb : ¬ (n * szT P e > 2 ^ 24) := by omega
    simp only [Instr.buildSlice, Sem.run_bind, run_underlying hu, Result.andThen_ok, run_sizeOf hi, hisz, if_neg hnb, Sem.run_ite]
    by_cases h0 : n * szT P e = 0
    · simp only [h0, if_true] at hfill ⊢
      simp only [Sem.run_pure, Result.andThen_ok]
      rw [hfill]
      simp [newRow]
    · simp only [h0, if_false] at hfill ⊢
      simp only [zeroValue, typeInfo, Sem.run_bind, run_program, Result.andThen_ok, hi, Sem.run_pure, hz]
      rw [hfill]
      simp [newRow]
  rw [hrun]
  obtain ⟨E2, L2, hR2, hm2, hv2⟩ := row_alloc hR1 (e := e) (sz := szT P e) (els := (frzL s.b (fs.map (·.2))).1) (w1 := w) rfl rfl rfl rfl (cells := ((ps.map fun p => a.eval p.2).flatMap fun v => v.cells.toList).toArray) (cap := n) (vs := (ps.map fun p => a.eval p.2).flatMap fun v => v.cells.toList)
    hok g1 (by rw [← hn]; simp only [List.toList_toArray]; exact List.take_of_length_le (by omega)) (by simpa using hcs) (by omega) (by rw [← hn]; exact hmx)
  rw [← hn] at hv2 hK
  exact ⟨_, _, E2, _, L2, _, hK, hR2, hm1.trans hm2 (fun fl b hb => by rw [← hR.heap]; exact hR.own.stlt fl b hb) hR1.own.off, hv2, rfl, fun h => nomatch h⟩

/-! ### Structs -/
theorem offT_is {t : TypeId} {f o : Nat} (h : offT P t f = some o) : ∃ fs x, P.underlying t = some (.struct fs) ∧ fs[f]? = some x ∧ x.offset = o ∧ fszT P t f = szT P x.type ∧ 0 < szT P x.type := by
  unfold offT at h
  split at h
  · rename_i fs hu
    split at h
    · rename_i x hx
      split at h
      · cases h
      · rename_i hz
        injection h with h
        exact ⟨fs, x, hu, hx, h, by simp [fszT, hu, hx], by omega⟩
    · cases h
  · cases h

theorem places_run (w : World) : ∀ (fs : List Field), (∀ x ∈ fs, ∃ i, P.info? x.type = some i) →
    (fs.mapM (fun f => do pure (f.offset, ← sizeOf f.type)) : Sem (List (Nat × Nat))).run P w = .ok (fs.map fun f => (f.offset, szT P f.type)) w
  | [], _ => by simp
  | f :: fs, h => by
    obtain ⟨i, hi⟩ := h f (by simp)
    have ih := places_run w fs fun x hx => h x (by simp [hx])
    simp only [List.mapM_cons, Sem.run_bind, run_sizeOf hi, Result.andThen_ok, Sem.run_pure, ih, List.map_cons]
    simp [szT, hi]

theorem fillA_run {t : TypeId} {fds : Array Field} (hu : P.underlying t = some (.struct fds)) : ∀ {fs : List (Nat × AV)} {ps : List (Nat × Value)} {cs cs' : List AV} {vs : List Value} {E : Env},
    fs.map (·.1) = ps.map (·.1) → RepL E (fs.map (·.2)) (ps.map (·.2)) [] → RepL E cs vs [] → fillA P t fs cs = some cs' →
    ∃ vs', Instr.fill ((fds.map fun f => (f.offset, szT P f.type))[·]?) vs.toArray ps = some vs'.toArray ∧ RepL E cs' vs' []
  | [], ps, cs, cs', vs, E, h1, h2, h3, h => by
    cases ps with
    | nil => simp only [fillA, Option.some.injEq] at h; subst h; exact ⟨vs, by simp [Instr.fill], h3⟩
    | cons p ps => simp at h1
  | (f, v) :: fs, ps, cs, cs', vs, E, h1, h2, h3, h => by
    cases ps with
    | nil => simp at h1
    | cons p ps =>
      obtain ⟨pi, pv⟩ := p
      simp only [List.map_cons, List.cons.injEq] at h1
      obtain ⟨rfl, h1⟩ := h1
      simp only [List.map_cons] at h2
      obtain ⟨v', vs', l1, l2, e, hl, hv, ht⟩ := h2.inv
      injection e with e1 e2
      subst e1 e2
      obtain ⟨rfl, rfl⟩ : l1 = [] ∧ l2 = [] := by simpa using hl.symm
      simp only [fillA, Option.bind_eq_some_iff] at h
      obtain ⟨o, ho, h⟩ := h
      split at h
      · rename_i hc
        obtain ⟨hc1, hc2, hc3⟩ := hc
        obtain ⟨fds', x, hu', hx, hxo, hfs, hpos⟩ := offT_is ho
        obtain rfl : fds' = fds := by rw [hu] at hu'; injection hu' with h; injection h with h; exact h.symm
        have hcells := hv.cells hc3
        have hvs : pv.cells.size = szT P x.type := by rw [← hfs, hc1]; have := hcells.length; simpa using this.symm
        have hlen := h3.length
        have hplace : (fds'.map fun f => (f.offset, szT P f.type))[f]? = some (o, szT P x.type) := by simp [hx, hxo]
        rw [fill_one hplace hvs (by simp; omega)]
        refine fillA_run hu h1 ht ?_ h
        simp only [List.toList_toArray]
        have e1 : putAt cs o (cellsOf v) = cs.take o ++ (cellsOf v ++ cs.drop (o + (cellsOf v).length)) := by simp [putAt]
        rw [e1, ← hc1, hfs]
        have := (h3.take o).append (hcells.append (h3.drop (o + szT P x.type)))
        simpa using this
      · cases h

theorem build_did (hR : R E s a w L) {t : TypeId} {ps : List (Nat × Operand)} {fs : List (Nat × AV)} {z cs : List AV} (hf : fieldsOf s ps = some fs) (hz : aggOf (zeroT P t) = some z) (hfo : fieldsOk P t = true)
    (hcs : fillA P t fs z = some cs) (h : outW Sp (moveO s (.agg cs) (unf (.agg cs) s.b s.n)) K) :
    DidG true E s a w L K ((Instr.build t (ps.map fun p => (p.1, a.eval p.2)).toArray).run P w) := by
  obtain ⟨hf1, hf2⟩ := fields_eval hR hf
  have hzt : zeroT P t = .agg z := by
    unfold aggOf at hz; split at hz
    · rename_i vs he; injection hz with hz; subst hz; exact he
    · cases hz
  obtain ⟨zv, hzv, hrz⟩ := zeroT_rep (P := P) (E := E) (t := t) (.inr ⟨z, hzt⟩)
  rw [hzt] at hrz
  obtain ⟨i, hi, hzi⟩ := Option.bind_eq_some_iff.1 hzv
  unfold fieldsOk at hfo
  split at hfo
  · rename_i fds hu
    cases hrz with
    | agg hrz =>
      rename_i zvs
      obtain ⟨vs', h1, h2⟩ := fillA_run (ps := ps.map fun p => (p.1, a.eval p.2)) hu (by simpa [Function.comp_def] using hf1) (by simpa [Function.comp_def] using hf2) hrz hcs
      have hpl := places_run (P := P) w fds.toList fun x hx => by
        have := List.all_eq_true.1 hfo x hx
        exact Option.isSome_iff_exists.1 this
      have hrun : (Instr.build t (ps.map fun p => (p.1, a.eval p.2)).toArray).run P w = .ok (.agg vs'.toArray) w := by
        have hm : (fds.mapM (fun f => do pure (f.offset, ← sizeOf f.type)) : Sem (Array (Nat × Nat))).run P w = .ok (fds.map fun f => (f.offset, szT P f.type)) w := by
          rw [Array.mapM_eq_mapM_toList, Sem.run_map, hpl]
          simp only [Result.andThen_ok]
          congr 1
          apply Array.ext'
          simp
        simp only [Instr.build, Sem.run_bind, zeroValue, typeInfo, run_program, hi, Result.andThen_ok, Sem.run_pure, hzi, run_underlying hu, hm, Value.cells]
        simp only [Array.toArray_toList] at h1
        rw [show (zvs : Array Value) = zvs from rfl]
        simp only [List.toList_toArray, h1, Sem.run_pure]
      rw [hrun]
      exact unf_did hR (.agg (by simpa using h2)) h
  · cases hfo

/-- append to a part without room. -/
theorem appendC_did (hR : R E s a w L) {t ty e : TypeId} (hk : kindT P t = .slice e) {id n off len : Nat} {cx cy : Value} {y : AV} (hx : Rep E (.rowc id n off len) cx []) (hy : Rep E y cy [])
    (h : outW Sp (appendO s (zok P e) (szT P e) (byT P e) (.rowc id n off len) y) K) : Did E s a w L K ((Builtin.append_ #[t, t] ty #[cx, cy]).run P w) := by
  simp only [appendO] at h
  obtain ⟨wsz, ws, hA, hsx⟩ := els_src hR hx h
  obtain ⟨xsz, xs, hB, hsy⟩ := els_src hR hy hA
  obtain ⟨⟨hzk, hne, rfl, rfl, hby, hmx⟩, hK⟩ := hB
  have hu := kind_slice hk
  obtain ⟨i, z, hi, hz, hzs, hipos, hisz, hiby⟩ := zok_is hzk
  obtain ⟨xo, xcap, rfl, hxv⟩ := hsx.is
  obtain ⟨yo, ycap, rfl, hyv⟩ := hsy.is
  obtain ⟨ad, news, rfl, hnews, hrn⟩ := hyv hne
  have hnl : news.length = xs.length * i.size := by rw [← hrn.length, flat_len hsy.z, hisz]
  have hpos : 0 < xs.length := List.length_pos_iff.2 hne
  have hby' : (ws.length + xs.length) * i.bytes ≤ 140737488355328 := by rw [hiby]; exact hby
  obtain rfl : xcap = ws.length := by
    cases hx with
    | rowc hg ho hn hv hh => obtain ⟨a', hv⟩ := hv; injection hv with h1 h2 h3; omega
  obtain ⟨olds, hro, hrun⟩ : ∃ olds : List Value, RepL E (flat ws) olds [] ∧ (Builtin.append_ #[t, t] ty #[.slice xo ws.length ws.length, .slice (some ad) xs.length ycap]).run P w =
      .ok (.slice (some ⟨w.heap.size, 0, none⟩) (ws.length + xs.length) (grownCap w (ws.length + xs.length) ws.length e))
        (w.drew.alloc (.cells (olds.toArray ++ news.toArray ++ Builtin.zeroCells z.cells (grownCap w (ws.length + xs.length) ws.length e - (ws.length + xs.length))) e)) := by
    have grow : ∀ (b : Addr) (olds : List Value), RepL E (flat ws) olds [] → xo = some b → (∀ j v, olds[j]? = some v → w.cell? (b.add j) = some v) → ∃ olds : List Value, RepL E (flat ws) olds [] ∧ (Builtin.append_ #[t, t] ty #[.slice xo ws.length ws.length, .slice (some ad) xs.length ycap]).run P w =
      .ok (.slice (some ⟨w.heap.size, 0, none⟩) (ws.length + xs.length) (grownCap w (ws.length + xs.length) ws.length e))
        (w.drew.alloc (.cells (olds.toArray ++ news.toArray ++ Builtin.zeroCells z.cells (grownCap w (ws.length + xs.length) ws.length e - (ws.length + xs.length))) e)) := by
      rintro b olds hro rfl holds
      exact ⟨olds, hro, run_append_grow (P := P) w t ty e i z hu hi hz b ws.length ws.length olds (by rw [← hro.length, flat_len hsx.z, hisz]) holds ad xs.length ycap news hnl hnews (by omega) (by omega) (growslice_fits (by omega) hby')⟩
    by_cases hws : ws = []
    · subst hws
      cases xo with
      | some b => exact grow b [] (by exact .nil) rfl (by simp)
      | none =>
        refine ⟨[], .nil, ?_⟩
        have hr := run_append_nil (P := P) w t ty e i z hu hi hz ad xs.length ycap news hnl hnews hpos (by omega) (by
          have : xs.length * i.bytes ≤ 140737488355328 := by simpa using hby'
          omega)
        simp only [List.length_nil, Nat.zero_add]
        rw [hr]
        congr 2
        simp
    · obtain ⟨b, olds, rfl, h1, h2⟩ := hxv hws
      exact grow b olds h2 rfl h1
  rw [hrun]
  have hok : ∀ x ∈ ws ++ xs, okE (szT P e) x := fun x hx => (List.mem_append.1 hx).elim (hsx.z x) (hsy.z x)
  have hcap := grownCap_ge w (ws.length + xs.length) ws.length e
  have ho' := hro.length
  rw [flat_len hsx.z] at ho'
  have hrep : RepL E (flat (ws ++ xs)) (olds ++ news) [] := by rw [flat_append]; simpa using hro.append hrn
  obtain ⟨E2, L2, hR2, hm2, hv2⟩ := row_alloc hR (e := e) (sz := szT P e) (els := ws ++ xs) (w1 := w.drew) rfl rfl rfl rfl
    (cells := olds.toArray ++ news.toArray ++ Builtin.zeroCells z.cells (grownCap w (ws.length + xs.length) ws.length e - (ws.length + xs.length))) (cap := grownCap w (ws.length + xs.length) ws.length e) (vs := olds ++ news)
    hok hrep (by
      have : (ws ++ xs).length * szT P e = (olds ++ news).length := by rw [List.length_append, List.length_append, ← ho', hnl, Nat.add_mul, hisz]
      rw [this]
      simp only [Array.toList_append]
      rw [List.take_left' (by simp)]) (by
      simp only [Array.size_append, List.size_toArray, size_zeroCells, hzs, ← ho', hnl, hisz, ← Nat.add_mul]
      congr 1
      omega) (by simpa using hcap) (by simpa [MX] using hmx)
  rw [List.length_append] at hv2
  exact ⟨_, _, E2, _, L2, _, hK, hR2, hm2, hv2, rfl, fun h => nomatch h⟩
end Go.Ev
