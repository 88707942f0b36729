/-
Writing own memory.
-/
import Derived.Test.YthglbpibfhfgnaaGreatDoorEvMem
set_option linter.unusedVariables false
namespace Go.Ev
variable {Sp : FuncId → List AV → AV → List AV → Prop} {P : Program} {E : Env} {s : S} {a : Act} {w : World} {L : List Nat} {K : S → AV → Prop}

theorem setCells_is {b : Nat} {ty : TypeId} {fr : Nat × Nat} : ∀ (vs : List Value) (o : Nat) (w : World) (cells : Array Value), w.heap[b]? = some (.cells cells ty fr) → o + vs.length ≤ cells.size →
    ∃ cells', (w.setCells b o vs).heap[b]? = some (.cells cells' ty fr) ∧ cells'.toList = cells.toList.take o ++ (vs ++ cells.toList.drop (o + vs.length)) ∧ cells'.size = cells.size ∧
      (∀ k, k ≠ b → (w.setCells b o vs).heap[k]? = w.heap[k]?) ∧ (w.setCells b o vs).heap.size = w.heap.size ∧ (w.setCells b o vs).os = w.os ∧ (w.setCells b o vs).tape = w.tape ∧ (w.setCells b o vs).output = w.output
  | [], o, w, cells, h, _ => ⟨cells, h, by simp, rfl, fun _ _ => rfl, rfl, rfl, rfl, rfl⟩
  | v :: r, o, w, cells, h, hl => by
    have hb : b < w.heap.size := (Array.getElem?_eq_some_iff.1 h).1
    simp only [List.length_cons] at hl
    have h1 : (w.setCell ⟨b, o, none⟩ v).heap[b]? = some (.cells (cells.setIfInBounds o v) ty fr) := by
      simp only [World.setCell, Array.getElem?_modify, if_true, h, Option.map_some]
      rfl
    obtain ⟨cells', g1, g2, g3, g4, g5, g6, g7, g8⟩ := setCells_is r (o + 1) (w.setCell ⟨b, o, none⟩ v) _ h1 (by simp; omega)
    refine ⟨cells', g1, ?_, by simpa using g3, fun k hk => ?_, ?_, g6, g7, g8⟩
    · rw [g2]
      have e1 : (cells.setIfInBounds o v).toList = cells.toList.set o v := by simp
      have e2 : cells.toList.set o v = cells.toList.take o ++ (v :: cells.toList.drop (o + 1)) := by
        rw [List.set_eq_take_append_cons_drop, if_pos (by simp; omega)]
      have hlen : (cells.toList.take o).length = o := by simp; omega
      rw [e1, e2]
      have e3 : (cells.toList.take o ++ v :: cells.toList.drop (o + 1)).take (o + 1) = cells.toList.take o ++ [v] := by
        rw [List.take_append, hlen, List.take_of_length_le (by omega)]
        simp
      have e4 : (cells.toList.take o ++ v :: cells.toList.drop (o + 1)).drop (o + 1 + r.length) = cells.toList.drop (o + (r.length + 1)) := by
        rw [List.drop_append, hlen, List.drop_eq_nil_of_le (by omega)]
        simp only [List.nil_append]
        rw [show o + 1 + r.length - o = r.length + 1 by omega, List.drop_succ_cons, List.drop_drop]
        congr 1; omega
      rw [e3, e4]
      simp
    · rw [World.setCells, g4 k hk]
      simp only [World.setCell, Array.getElem?_modify]
      rw [if_neg (fun e => hk e.symm)]
    · rw [World.setCells, g5]
      simp [World.setCell]

/-- What is written to a block that is owned. -/
theorem write_move (hR : R E s a w L) {b : Nat} (hbL : b ∈ L) {cells : Array Value} {ty : TypeId} {fr : Nat × Nat} (hb : w.heap[b]? = some (.cells cells ty fr)) {o : Nat} {vs : List Value} (hl : o + vs.length ≤ cells.size)
    {g : Nat → Option Loc} (hg : ∀ id x, E.g id = some x → ∃ x', g id = some x' ∧ (x' = x ∨ x.obj = false ∧ x'.obj = false ∧ x.n < x'.n)) {L' : List Nat} (hn : L'.Nodup) (hs : ∀ c ∈ L', c ∈ L) :
    ∃ cells', (w.setCells b o vs).heap[b]? = some (.cells cells' ty fr) ∧ cells'.toList = cells.toList.take o ++ (vs ++ cells.toList.drop (o + vs.length)) ∧ cells'.size = cells.size ∧
      Move E w L { h := (w.setCells b o vs).heap, st := E.st, g := g } (w.setCells b o vs) L' ∧ (∀ l : List Nat, b ∉ l → Ext E { h := (w.setCells b o vs).heap, st := E.st, g := g } l) := by
  obtain ⟨cells', g1, g2, g3, g4, g5, g6, g7, g8⟩ := setCells_is vs o w cells hb hl
  have hext : ∀ l : List Nat, b ∉ l → Ext E { h := (w.setCells b o vs).heap, st := E.st, g := g } l := fun l hbl =>
    ⟨fun k hk => by
      show (w.setCells b o vs).heap[k]? = E.h[k]?
      rw [hR.heap]
      refine g4 k ?_
      rintro rfl
      rcases hk with hk | hk
      · exact hR.own.off _ hbL hk
      · exact hbl hk, fun _ _ h => h, hR.own.sub, hg⟩
  refine ⟨cells', g1, g2, g3, ⟨hext [] (by simp), rfl, by rw [g5]; exact Nat.le_refl _, fun k _ hk => g4 k (fun e => hk (e ▸ hbL)), fun _ _ h => .inl h, fun c hc => .inl (hs c hc), ?_, g6, g7, g8, fun _ h => .inl h⟩, hext⟩
  have hsz : (w.setCells b o vs).heap.size = E.h.size := by rw [g5, hR.heap]
  exact ⟨hn, fun c hc => by show c < (w.setCells b o vs).heap.size; rw [hsz]; exact hR.own.lt c (hs c hc), fun c hc => hR.own.off c (hs c hc), fun fl c hc => by show c < (w.setCells b o vs).heap.size; rw [hsz]; exact hR.own.stlt fl c hc, hR.own.sub⟩

theorem storeVar_run {t : TypeId} (hp : 0 < szT P t) {b o : Nat} {cells : Array Value} {ty : TypeId} {fr : Nat × Nat} (hb : w.heap[b]? = some (.cells cells ty fr)) (hf : openB fr cells.size) {v : Value} (hl : v.cells.size = szT P t) (hle : o + szT P t ≤ cells.size)
    (h1 : ∀ u ∈ v.cells.toList, u.oneCell' = true) : (storeVar t ⟨b, o, none⟩ v).run P w = .ok () (w.setCells b o v.cells.toList) := by
  obtain ⟨i, hi⟩ := szT_info hp
  have hs : v.cells.size = i.size := by rw [hl]; simp [szT, hi]
  have := run_storeCells_cells (P := P) b o v.cells.toList 0 w (fun j hj => by
      rw [Array.length_toList] at hj
      rw [cell_at]; unfold cellAt; rw [hb]
      show (cells[o + 0 + j]?).isSome = true
      simp; omega) (fun j hj => by
      rw [Array.length_toList] at hj
      unfold World.frozen?
      rw [hb]
      have := hf (o + 0 + j) (by omega)
      simp only [Bool.and_eq_false_iff, decide_eq_false_iff_not]
      omega) h1
  simp only [Nat.add_zero] at this
  simp [storeVar, run_sizeOf hi, hs, this]

theorem storeAt_run {t : TypeId} {ad : Addr} {v : Value} : (Instr.storeAt t (.pointer (some ad)) v).run P w = (storeVar t ad v).run P w := by
  simp [Instr.storeAt, Instr.sureAddr]

theorem cells_one_all {v : AV} {cv : Value} {l : List Nat} (h : RepL E (cellsOf v) cv.cells.toList l) (h1 : allC1 (cellsOf v) = true) : ∀ u ∈ cv.cells.toList, u.oneCell' = true := by
  have : ∀ {cs : List AV} {vs : List Value} {l : List Nat}, RepL E cs vs l → allC1 cs = true → ∀ u ∈ vs, u.oneCell' = true := by
    intro cs
    induction cs with
    | nil => intro vs l h _ u hu; cases h; cases hu
    | cons c cs ih =>
      intro vs l h h1 u hu
      obtain ⟨v, vs', l1, l2, rfl, rfl, h, t⟩ := h.inv
      simp only [allC1, Bool.and_eq_true] at h1
      rcases List.mem_cons.1 hu with rfl | hu
      · exact h.one h1.1
      · exact ih t h1.2 u hu
  exact this h h1

/-- What a store came to. -/
def DidU (E : Env) (s : S) (a : Act) (w : World) (L : List Nat) (K : S → AV → Prop) (r : Result Unit) : Prop :=
  ∃ s' E' w' L', K s' .undef ∧ R E' s' a w' L' ∧ Move E w L E' w' L' ∧ r = .ok () w'

/-- A block of own memory written: its cells v1 v2 v3, the middle ones anew. -/
theorem store_core (hR : R E s a w L) {id : Nat} {blk' : Blk} {b : Nat} {p l q : List Nat} (hL : L = p ++ ((b :: l) ++ q))
    (hset : ∀ E' blk' l', BlkRep E' id blk' l' → Ext E E' (p ++ q) → (∀ i, i ≠ id → i ∈ s.b.map (·.1) → E'.g i = E.g i) → Blks E' (setB id blk' s.b) (p ++ (l' ++ q)))
    {cells : Array Value} {ty : TypeId} {fr : Nat × Nat} (hb : w.heap[b]? = some (.cells cells ty fr)) {o : Nat} {vs : List Value} (hl : o + vs.length ≤ cells.size) {l' : List Nat} (hsub : l'.Sublist l)
    (hmk : ∀ cells' : Array Value, (w.setCells b o vs).heap[b]? = some (.cells cells' ty fr) → cells'.toList = cells.toList.take o ++ (vs ++ cells.toList.drop (o + vs.length)) → cells'.size = cells.size →
      (∀ m : List Nat, b ∉ m → Ext E { h := (w.setCells b o vs).heap, st := E.st, g := E.g } m) → BlkRep { h := (w.setCells b o vs).heap, st := E.st, g := E.g } id blk' (b :: l')) :
    ∃ E' L', R E' { s with b := setB id blk' s.b } a (w.setCells b o vs) L' ∧ Move E w L E' (w.setCells b o vs) L' := by
  have hsubL : (p ++ ((b :: l') ++ q)).Sublist L := by
    rw [hL]
    exact (List.Sublist.refl p).append ((hsub.cons_cons b).append (.refl q))
  have hnd := hR.own.nodup
  have hbL : b ∈ L := by rw [hL]; simp
  obtain ⟨cells', g1, g2, g3, hm, hext⟩ := write_move hR hbL hb hl (g := E.g) (fun id x h => ⟨x, h, .inl rfl⟩) (L' := p ++ ((b :: l') ++ q)) (hnd.sublist hsubL) fun c hc => hsubL.subset hc
  have hbpq : b ∉ p ++ q := by
    rw [hL] at hnd
    intro hm
    rw [List.nodup_append] at hnd
    obtain ⟨h1, h2, h3⟩ := hnd
    rcases List.mem_append.1 hm with hm | hm
    · exact h3 b hm b (by simp) rfl
    · rw [List.cons_append, List.nodup_cons] at h2
      exact h2.1 (by simp [hm])
  have hB := hset _ blk' _ (hmk cells' g1 g2 g3 hext) (hext _ hbpq) (fun _ _ _ => rfl)
  exact ⟨_, _, hR.step hm (b := setB id blk' s.b) (n := s.n) hB (by rw [keys_setB]; exact hR.keys) hR.gn, hm⟩

theorem store_did (hR : R E s a w L) {t : TypeId} {p v : AV} {cp cv : Value} (hpos : 0 < szT P t) (hp : Rep E p cp []) (hv : Rep E v cv []) (h : outW Sp (storeO s (szT P t) p v) K) :
    DidU E s a w L K ((Instr.storeAt t cp cv).run P w) := by
  unfold storeO at h
  split at h
  · rename_i id j
    obtain ⟨e, he, hA⟩ := outW_okO h
    obtain ⟨⟨hcl, hle, hc1⟩, hB⟩ := hA
    obtain ⟨blk, hlook, hobj⟩ := Option.bind_eq_some_iff.1 he
    cases blk <;> simp [getObj] at hobj
    subst hobj
    rename_i e
    have hcells := hv.cells hc1
    have hlc : cv.cells.size = szT P t := by have := hcells.length; rw [hcl] at this; simpa using this.symm
    obtain ⟨pp, l, q, hL, hb, hset⟩ := hR.blk.set hlook hR.keys
    cases hb with
    | @obj _ x b cells ty fr l hg ho hx hb hf h1 hh =>
      cases hp with
      | @loc _ _ y b' hg' ho' hb' =>
        obtain rfl : x = y := by rw [hg] at hg'; injection hg'
        obtain rfl : b = b' := by rw [hx] at hb'; injection hb'
        have hbw : w.heap[b]? = some (.cells cells ty fr) := by rw [← hR.heap]; exact hb
        have hlen0 := hh.length
        have hle' : j + szT P t ≤ cells.size := by rw [← Array.length_toList, ← hlen0]; exact hle
        rw [storeAt_run, storeVar_run hpos hbw hf hlc hle' (cells_one_all hcells hc1)]
        have hsp := mid_split (cellsOf e) j (szT P t) hle
        rw [hsp] at hh
        obtain ⟨v1, v23, l1, l23, hc, rfl, g1, g23⟩ := hh.split
        obtain ⟨v2, v3, l2, l3, rfl, rfl, g2, g3⟩ := g23.split
        have hv1 : v1.length = j := by rw [← g1.length]; simp; omega
        have hv2 : v2.length = szT P t := by rw [← g2.length]; simp; omega
        have hnb : ∀ m, m = l1 ∨ m = l3 → b ∉ m := by
          have hnd := hR.own.nodup
          rw [hL, List.nodup_append] at hnd
          have := hnd.2.1
          rw [List.cons_append, List.nodup_cons] at this
          rintro m (rfl | rfl) hm <;> exact this.1 (by simp [hm])
        obtain ⟨E', L', hr, hm⟩ := store_core hR (blk' := .obj (reCells e (putAt (cellsOf e) j (cellsOf v)))) hL hset hbw (o := j) (vs := cv.cells.toList) (by rw [Array.length_toList, hlc]; exact hle') (l' := l1 ++ l3)
          ((List.Sublist.refl l1).append (List.sublist_append_right l2 l3)) (fun cells' k1 k2 k3 hext => by
            have hput : putAt (cellsOf e) j (cellsOf v) = (cellsOf e).take j ++ (cellsOf v ++ (cellsOf e).drop (j + szT P t)) := by simp [putAt, hcl]
            have hpl : (putAt (cellsOf e) j (cellsOf v)).length = (cellsOf e).length := by rw [hput]; simp [hcl]; omega
            have hc1' : allC1 (putAt (cellsOf e) j (cellsOf v)) = true := by
              rw [hput]
              rw [hsp] at h1
              simp only [allC1_append, Bool.and_eq_true] at h1 ⊢
              exact ⟨h1.1, hc1, h1.2.2⟩
            have hre := cells_re (e := e) hpl hc1'
            refine .obj (x := x) hg ho hx k1 (by rw [k3]; exact hf) (by rw [hre]; exact hc1') ?_
            rw [hre, hput, k2, hc]
            have e1 : (v1 ++ (v2 ++ v3)).take j = v1 := by rw [← hv1, List.take_left]
            have e2 : (v1 ++ (v2 ++ v3)).drop (j + cv.cells.toList.length) = v3 := by
              rw [Array.length_toList, hlc, ← hv1, ← hv2, ← List.append_assoc, ← List.length_append, List.drop_left]
            rw [e1, e2]
            exact (g1.ext (hext _ (hnb _ (.inl rfl)))).append ((hcells.ext (hext [] (by simp))).append (g3.ext (hext _ (hnb _ (.inr rfl))))))
        exact ⟨_, E', _, L', hB, hr, hm, rfl⟩
  · rename_i id m i j
    obtain ⟨r, hr, hA⟩ := outW_okO h
    obtain ⟨rfl, hB⟩ := hA
    obtain ⟨e, he, hC⟩ := outW_getO hB
    obtain ⟨⟨hcl, hle, hc1⟩, hD⟩ := hC
    have hcells := hv.cells hc1
    have hlc : cv.cells.size = szT P t := by have := hcells.length; rw [hcl] at this; simpa using this.symm
    obtain ⟨q0, hq0, hq1⟩ := Option.bind_eq_some_iff.1 hr
    have hlook := rowAt_look hq0
    obtain ⟨sz, els, fr⟩ := q0
    cases fr
    · simp at hq1
      subst hq1
      simp only at hlook he hD hp
      obtain ⟨pp, l, q, hL, hb, hset⟩ := hR.blk.set hlook hR.keys
      cases hp with
      | @elp _ _ _ _ y _ hg' ho' hn' hv' hh' =>
        cases hb with
        | nil => simp at he
        | @row _ _ x b cells ty fz l hg ho hx hn hs hb hf hc hl hm hz hh =>
          obtain rfl : x = y := by rw [hg] at hg'; injection hg'
          obtain ⟨b', hb', rfl⟩ := hh' hn
          obtain rfl : b = b' := by rw [hx] at hb'; injection hb'
          have hbw : w.heap[b]? = some (.cells cells ty fz) := by rw [← hR.heap]; exact hb
          obtain ⟨A, B, hflat, hAl, hsetf⟩ := flat_mid (n := szT P t) hz he hle
          obtain ⟨hfs, hok⟩ := hsetf (cellsOf v) hcl (fun _ => hc1)
          have hfl := flat_len hz
          rw [hflat] at hh
          obtain ⟨v1, v23, l1, l23, hct, rfl, g1, g23⟩ := hh.split
          obtain ⟨v2, v3, l2, l3, rfl, rfl, g2, g3⟩ := g23.split
          have hv1 : v1.length = i * sz + j := by rw [← g1.length, hAl]
          have hv2 : v2.length = szT P t := by rw [← g2.length]; simp; omega
          have htl : (cells.toList.take (els.length * sz)).length = els.length * sz := by
            rw [List.length_take]
            refine Nat.min_eq_left ?_
            have : cells.toList.length = x.cap * sz := (Array.length_toList (xs := cells)).trans hc
            rw [this]
            exact Nat.mul_le_mul_right _ hl
          have hle' : i * sz + j + szT P t ≤ els.length * sz := by
            rw [← htl, hct]; simp only [List.length_append]; omega
          have hle2 : i * x.sz + j + szT P t ≤ cells.size := by
            rw [hs, hc]; exact Nat.le_trans hle' (Nat.mul_le_mul_right _ hl)
          rw [storeAt_run, storeVar_run hpos hbw hf hlc hle2 (cells_one_all hcells hc1)]
          have hnb : ∀ m, m = l1 ∨ m = l3 → b ∉ m := by
            have hnd := hR.own.nodup
            rw [hL, List.nodup_append] at hnd
            have := hnd.2.1
            rw [List.cons_append, List.nodup_cons] at this
            rintro m (rfl | rfl) hm <;> exact this.1 (by simp [hm])
          obtain ⟨E', L', hr, hmv⟩ := store_core hR (blk' := .row sz (els.set i (reCells e (putAt (cellsOf e) j (cellsOf v)))) false) hL hset hbw (o := i * x.sz + j) (vs := cv.cells.toList) (by rw [Array.length_toList, hlc]; exact hle2) (l' := l1 ++ l3)
            ((List.Sublist.refl l1).append (List.sublist_append_right l2 l3)) (fun cells' k1 k2 k3 hext => by
              refine .row (x := x) hg ho hx (by simpa using hn) hs k1 (by rw [k3]; exact hf) (by rw [k3]; exact hc) (by simpa using hl) (by simpa using hm) (okE_set hz hok) ?_
              rw [hfs, List.length_set, k2]
              have e0 : cells.toList = v1 ++ (v2 ++ v3) ++ cells.toList.drop (els.length * sz) := by rw [← hct, List.take_append_drop]
              have e1 : cells.toList.take (i * x.sz + j) = v1 := by
                rw [e0, hs, ← hv1, List.append_assoc, List.take_left]
              have e2 : cells.toList.drop (i * x.sz + j + cv.cells.toList.length) = v3 ++ cells.toList.drop (els.length * sz) := by
                conv => lhs; rw [e0]
                rw [Array.length_toList, hlc, hs, ← hv1, ← hv2, ← List.append_assoc, ← List.length_append, List.append_assoc, List.drop_left]
              have e3 : (v1 ++ (cv.cells.toList ++ (v3 ++ cells.toList.drop (els.length * sz)))).take (els.length * sz) = v1 ++ (cv.cells.toList ++ v3) := by
                have : els.length * sz = (v1 ++ (cv.cells.toList ++ v3)).length := by
                  rw [← htl, hct]
                  simp only [List.length_append, Array.length_toList, hlc, hv2]
                rw [this, ← List.append_assoc, ← List.append_assoc, ← List.append_assoc, List.take_left]
              rw [e1, e2, e3]
              exact (g1.ext (hext _ (hnb _ (.inl rfl)))).append ((hcells.ext (hext [] (by simp))).append (g3.ext (hext _ (hnb _ (.inr rfl))))))
          exact ⟨_, E', _, L', hD, hr, hmv, rfl⟩
    · simp at hq1
  · exact h.elim
end Go.Ev
