/-
Literals: slices and structs that are built; what goes into them is written no more.
-/
import Derived.Test.YthglbpibfhfgnaaGreatDoorEvApp
set_option linter.unusedVariables false
set_option linter.unusedSimpArgs false
namespace Go.Ev
variable {Sp : FuncId → List AV → AV → List AV → Prop} {P : Program} {E : Env} {s : S} {a : Act} {w : World} {L : List Nat} {K : S → AV → Prop}

theorem Move.trans {E1 E2 E3 : Env} {w1 w2 w3 : World} {L1 L2 L3 : List Nat} (h1 : Move E1 w1 L1 E2 w2 L2) (h2 : Move E2 w2 L2 E3 w3 L3) (hst : ∀ fl b, E1.st fl b → b < w1.heap.size) (hoff : ∀ b ∈ L2, ¬ E2.st false b) : Move E1 w1 L1 E3 w3 L3 where
  ext := ⟨fun b hb => (by
      rcases hb with hb | hb
      · rw [h2.ext.heap b (.inl (h1.ext.st _ _ hb)), h1.ext.heap b (.inl hb)]
      · cases hb), fun fl b hb => h2.ext.st _ _ (h1.ext.st _ _ hb), h1.ext.sub, fun id x hx => by
      obtain ⟨x', hx', h⟩ := h1.ext.g id x hx
      obtain ⟨x'', hx'', h'⟩ := h2.ext.g id x' hx'
      refine ⟨x'', hx'', ?_⟩
      rcases h with rfl | ⟨h3, h4, h5⟩ <;> rcases h' with rfl | ⟨h6, h7, h8⟩
      · exact .inl rfl
      · exact .inr ⟨h6, h7, h8⟩
      · exact .inr ⟨h3, h4, h5⟩
      · exact .inr ⟨h3, h7, by omega⟩⟩
  heap := h2.heap
  size := Nat.le_trans h1.size h2.size
  keep b hb hn := by
    have : b ∉ L2 := fun hm => by
      rcases h1.new b hm with h | h
      · exact hn h
      · omega
    rw [h2.keep b (Nat.lt_of_lt_of_le hb h1.size) this, h1.keep b hb hn]
  stF b hb := by
    rcases h2.stF b hb with h | h
    · rcases h1.stF b h with h | h
      · exact .inl h
      · exact .inr (h2.ext.st _ _ h)
    · exact .inr h
  stN fl b hb := by
    rcases h2.stN fl b hb with h | h | h
    · exact h1.stN fl b h
    · exact .inr (h1.new b h)
    · exact .inr (.inr (Nat.le_trans h1.size h))
  new b hb := by
    rcases h2.new b hb with h | h
    · exact h1.new b h
    · exact .inr (Nat.le_trans h1.size h)
  own := h2.own
  os := h2.os.trans h1.os
  tape := h2.tape.trans h1.tape
  output := h2.output.trans h1.output

theorem ext_self (hs : ∀ b, E.st true b → E.st false b) (l : List Nat) : Ext E E l := ⟨fun _ _ => rfl, fun _ _ h => h, hs, fun id x h => ⟨x, h, .inl rfl⟩⟩
theorem outW_fail {p : Prop} (h : outW Sp (.fail) K) : p := h.elim

/-- One value that goes into a list. -/
theorem frz1_ok (hR : R E s a w L) {v : AV} {cv : Value} (hv : Rep E v cv []) (h : (frz1 s.b v).2.2) :
    ∃ E' L', R E' { s with b := (frz1 s.b v).2.1 } a w L' ∧ Move E w L E' w L' ∧ Rep E' (frz1 s.b v).1 cv [] ∧ (∀ u cu, Rep E u cu [] → Rep E' u cu []) := by
  have triv : ∀ {v : AV}, Rep E v cv [] → ∃ E' L', R E' { s with b := s.b } a w L' ∧ Move E w L E' w L' ∧ Rep E' v cv [] ∧ (∀ u cu, Rep E u cu [] → Rep E' u cu []) := fun hv => ⟨E, L, hR, .refl hR, hv, fun _ _ h => h⟩
  unfold frz1 at h ⊢
  split
  · rename_i id n off len
    simp only at h
    split at h
    · rename_i sz els fr hl
      obtain ⟨hn, hle, hpos, hbd, hno⟩ := h
      obtain ⟨y, hy⟩ := hR.row hl
      obtain ⟨pp, l, q, hL, hb, hset⟩ := hR.blk.set hl hR.keys
      cases hv with
      | @row _ _ _ _ x _ hg ho hn' hv' hh =>
        obtain rfl : x = y := by have := hy.g; rw [hg] at this; injection this
        obtain ⟨ao, rfl, hat⟩ := hh (by rw [hy.n, hn])
        -- the block is written no more
        have main : ∃ E' L', R E' { s with b := setB id (.row sz els true) s.b } a w L' ∧ Move E w L E' w L' ∧ E'.h = E.h ∧ E'.g = E.g ∧ (∀ fl b, E.st fl b → E'.st fl b) ∧ (∀ b, x.blk = some b → E'.st true b) := by
          have hkeys : ((setB id (.row sz els true) s.b).map (·.1)).Nodup := by rw [keys_setB]; exact hR.keys
          cases hb with
          | nil hg' ho' hx' hc' hn' hz' =>
            have hbl := hset E (.row sz [] true) [] (.nil hg' ho' hx' hc' hn' hz') (ext_self hR.own.sub _) fun _ _ _ => rfl
            rw [← hL] at hbl
            refine ⟨E, L, hR.step (.refl hR) (b := setB id _ s.b) (n := s.n) hbl hkeys hR.gn, .refl hR, rfl, rfl, fun _ _ h => h, fun b hb => ?_⟩
            rw [hg] at hg'; injection hg' with hg'; subst hg'; rw [hx'] at hb; cases hb
          | frz hg' ho' hx' hn' hs' hb' hst hl' hm hz' hh' =>
            have hbl := hset E (.row sz els true) [] (.frz hg' ho' hx' hn' hs' hb' hst hl' hm hz' hh') (ext_self hR.own.sub _) fun _ _ _ => rfl
            rw [← hL] at hbl
            refine ⟨E, L, hR.step (.refl hR) (b := setB id _ s.b) (n := s.n) hbl hkeys hR.gn, .refl hR, rfl, rfl, fun _ _ h => h, fun b hb => ?_⟩
            rw [hg] at hg'; injection hg' with hg'; subst hg'; rw [hx'] at hb; injection hb with hb; subst hb; exact hst
          | @row _ _ x' b cells ty fz l hg' ho' hx' hn' hs' hb' hf hc hl' hm hz' hh' =>
            obtain rfl : x = x' := by rw [hg] at hg'; injection hg'
            obtain rfl := noOL hh' (noOL_flat hno)
            let E' : Env := { h := E.h, st := fun fl c => E.st fl c ∨ c = b, g := E.g }
            have hbL : b ∈ L := by rw [hL]; simp
            have hext : ∀ m : List Nat, Ext E E' m := fun m => ⟨fun _ _ => rfl, fun _ _ h => .inl h, hR.own.sub, fun id x h => ⟨x, h, .inl rfl⟩⟩
            have hbl := hset E' (.row sz els true) [] (.frz hg' ho' hx' hn' hs' hb' (.inr rfl) hl' hm hz' (hh'.ext (hext _))) (hext _) fun _ _ _ => rfl
            have hnd := hR.own.nodup
            rw [hL] at hnd
            have hsubl : (pp ++ ([] ++ q)).Sublist (pp ++ ([b] ++ q)) := (List.Sublist.refl pp).append ((List.nil_sublist _).append (.refl q))
            have hnb : b ∉ pp ++ ([] ++ q) := by
              rw [List.nodup_append] at hnd
              obtain ⟨_, h2, h3⟩ := hnd
              intro hm
              rcases List.mem_append.1 hm with hm | hm
              · exact h3 b hm b (by simp) rfl
              · rw [List.singleton_append, List.nodup_cons] at h2; exact h2.1 (by simpa using hm)
            have hmv : Move E w L E' w (pp ++ ([] ++ q)) := by
              refine ⟨hext [], hR.heap, Nat.le_refl _, fun _ _ _ => rfl, fun fl c hc => ?_, fun c hc => .inl (by rw [hL]; exact hsubl.subset hc), ?_, rfl, rfl, rfl, fun c hc => hc.imp (fun h => h) fun h => .inr h⟩
              · rcases hc with hc | rfl
                · exact .inl hc
                · exact .inr (.inl hbL)
              · refine ⟨hnd.sublist hsubl, fun c hc => hR.own.lt c (by rw [hL]; exact hsubl.subset hc), fun c hc hst => ?_, fun fl c hc => ?_, fun c hc => ?_⟩
                · rcases hst with hst | rfl
                  · exact hR.own.off c (by rw [hL]; exact hsubl.subset hc) hst
                  · exact hnb hc
                · rcases hc with hc | rfl
                  · exact hR.own.stlt fl c hc
                  · exact hR.own.lt c hbL
                · rcases hc with hc | rfl
                  · exact .inl (hR.own.sub c hc)
                  · exact .inr rfl
            exact ⟨E', _, hR.step hmv (b := setB id _ s.b) (n := s.n) hbl hkeys hR.gn, hmv, rfl, rfl, fun _ _ h => .inl h, fun c hc => by rw [hx'] at hc; injection hc with hc; exact .inr hc.symm⟩
        obtain ⟨E', L', hr, hm, hEh, hEg, hst, hstb⟩ := main
        simp only [hl]
        have hsame : ∀ u cu, Rep E u cu [] → Rep E' u cu [] := fun u cu hu => hu.ext hm.ext
        refine ⟨E', L', hr, hm, ?_, hsame⟩
        -- the part, as a list that stays
        have hlen : ((els.drop off).take len).length = len := by simp; omega
        by_cases hemp : len = 0
        · subst hemp; simp only [List.take_zero]; exact .lst0 _ _ _ _
        · rcases hy.mem with ⟨he, _⟩ | ⟨b, cells, ty, fz, m, hxb, hbw, hsz, hrep, _⟩
          · rw [he] at hlen; simp at hlen; omega
          · have hao := hat (.inl (by have := hy.le; omega))
            rw [hxb] at hao
            subst hao
            simp only [Option.map_some]
            have hmx := hy.mx
            have hle2 := hy.le
            have key : Rep E' (.lst true sz ((els.drop off).take len)) (.slice (some ⟨b, off * x.sz, none⟩) ((els.drop off).take len).length (x.cap - off)) [] := by
              refine .lst (cap := x.cap - off) (vs := ((cells.toList.take (els.length * sz)).drop (off * sz)).take (len * sz)) (fun h' => by rw [h'] at hlen; simp at hlen; omega) (by omega) (by omega) (hstb b hxb) (fun e he => hy.z e (List.mem_of_mem_drop (List.mem_of_mem_take he))) (fun j v hj => ?_) ?_
              · rw [hEh, hy.hsz]
                have h1 : (cells.toList.take (els.length * sz))[off * sz + j]? = some v := by
                  rw [List.getElem?_take] at hj
                  split at hj
                  · rw [List.getElem?_drop] at hj; exact hj
                  · cases hj
                rw [List.getElem?_take] at h1
                split at h1
                · unfold cellAt; rw [hbw]; show cells[_]? = _; rw [← Array.getElem?_toList]; exact h1
                · cases h1
              · rw [flat_drop_take (l := off) (n := len) hy.z]
                obtain rfl := noOL hrep (noOL_flat hno)
                exact (((hrep.drop _).take _).ext hm.ext)
            rw [hlen] at key
            exact key
    · exact h.elim
  · exact triv hv

theorem frzC_ok : ∀ {vs : List AV} {cvs : List Value} {E : Env} {s : S} {L : List Nat}, R E s a w L → RepL E vs cvs [] → (frzC s.b vs).2.2 →
    ∃ E' L', R E' { s with b := (frzC s.b vs).2.1 } a w L' ∧ Move E w L E' w L' ∧ RepL E' (frzC s.b vs).1 cvs [] ∧ (∀ u cu, Rep E u cu [] → Rep E' u cu [])
  | [], _, E, s, L, hR, hv, _ => by cases hv; exact ⟨E, L, hR, .refl hR, .nil, fun _ _ h => h⟩
  | v :: vs, cvs, E, s, L, hR, hv, h => by
    obtain ⟨cv, cvs', l1, l2, rfl, hl, h1, h2⟩ := hv.inv
    obtain ⟨rfl, rfl⟩ : l1 = [] ∧ l2 = [] := by simpa using hl.symm
    simp only [frzC] at h ⊢
    obtain ⟨E1, L1, hR1, hm1, hr1, hk1⟩ := frz1_ok hR h1 h.1
    have h2' : RepL E1 vs cvs' [] := h2.ext hm1.ext
    obtain ⟨E2, L2, hR2, hm2, hr2, hk2⟩ := frzC_ok hR1 h2' h.2
    refine ⟨E2, L2, hR2, hm1.trans hm2 ?_ hR1.own.off, .cons (l := []) (m := []) (hk2 _ _ hr1) hr2, fun u cu hu => hk2 _ _ (hk1 _ _ hu)⟩
    intro fl b hb; rw [← hR.heap]; exact hR.own.stlt fl b hb

theorem frzV_ok (hR : R E s a w L) {v : AV} {cv : Value} (hv : Rep E v cv []) (h : (frzV s.b v).2.2) :
    ∃ E' L', R E' { s with b := (frzV s.b v).2.1 } a w L' ∧ Move E w L E' w L' ∧ Rep E' (frzV s.b v).1 cv [] ∧ (∀ u cu, Rep E u cu [] → Rep E' u cu []) := by
  unfold frzV at h ⊢
  split
  · rename_i cs
    cases hv with
    | agg hv =>
      obtain ⟨E', L', h1, h2, h3, h4⟩ := frzC_ok hR hv h
      exact ⟨E', L', h1, h2, .agg h3, h4⟩
  · exact frz1_ok hR hv (by simpa using h)

theorem frzL_ok : ∀ {vs : List AV} {cvs : List Value} {E : Env} {s : S} {L : List Nat}, R E s a w L → RepL E vs cvs [] → (frzL s.b vs).2.2 →
    ∃ E' L', R E' { s with b := (frzL s.b vs).2.1 } a w L' ∧ Move E w L E' w L' ∧ RepL E' (frzL s.b vs).1 cvs [] ∧ (∀ u cu, Rep E u cu [] → Rep E' u cu [])
  | [], _, E, s, L, hR, hv, _ => by cases hv; exact ⟨E, L, hR, .refl hR, .nil, fun _ _ h => h⟩
  | v :: vs, cvs, E, s, L, hR, hv, h => by
    obtain ⟨cv, cvs', l1, l2, rfl, hl, h1, h2⟩ := hv.inv
    obtain ⟨rfl, rfl⟩ : l1 = [] ∧ l2 = [] := by simpa using hl.symm
    simp only [frzL] at h ⊢
    obtain ⟨E1, L1, hR1, hm1, hr1, hk1⟩ := frzV_ok hR h1 h.1
    have h2' : RepL E1 vs cvs' [] := h2.ext hm1.ext
    obtain ⟨E2, L2, hR2, hm2, hr2, hk2⟩ := frzL_ok hR1 h2' h.2
    refine ⟨E2, L2, hR2, hm1.trans hm2 ?_ hR1.own.off, .cons (l := []) (m := []) (hk2 _ _ hr1) hr2, fun u cu hu => hk2 _ _ (hk1 _ _ hu)⟩
    intro fl b hb; rw [← hR.heap]; exact hR.own.stlt fl b hb
end Go.Ev
