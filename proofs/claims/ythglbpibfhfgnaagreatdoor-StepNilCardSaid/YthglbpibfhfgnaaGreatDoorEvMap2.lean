/-
Maps: made, written.
-/
import Derived.Test.YthglbpibfhfgnaaGreatDoorEvMap
set_option linter.unusedVariables false
set_option linter.unusedSimpArgs false
namespace Go.Ev
variable {Sp : FuncId → List AV → AV → List AV → Prop} {P : Program} {E : Env} {s : S} {a : Act} {w : World} {L : List Nat} {K : S → AV → Prop}

def setW (w : World) (b : Nat) (o : Obj) : World := { w with heap := w.heap.setIfInBounds b o }

theorem heap_move (hR : R E s a w L) {b : Nat} (hbL : b ∈ L) (o : Obj) :
    Move E w L { h := (setW w b o).heap, st := E.st, g := E.g } (setW w b o) L ∧ (∀ l : List Nat, b ∉ l → Ext E { h := (setW w b o).heap, st := E.st, g := E.g } l) ∧ (setW w b o).heap[b]? = some o := by
  have hlt : b < w.heap.size := by rw [← hR.heap]; exact hR.own.lt b hbL
  have hsz : (setW w b o).heap.size = E.h.size := by rw [hR.heap]; simp [setW]
  have hext : ∀ l : List Nat, b ∉ l → Ext E { h := (setW w b o).heap, st := E.st, g := E.g } l := fun l hbl =>
    ⟨fun k hk => by
      show (w.heap.setIfInBounds b o)[k]? = E.h[k]?
      rw [hR.heap, Array.getElem?_setIfInBounds]
      split
      · rename_i e
        subst e
        rcases hk with hk | hk
        · exact absurd hk (hR.own.off _ hbL)
        · exact absurd hk hbl
      · rfl, fun _ _ h => h, hR.own.sub, fun id x h => ⟨x, h, .inl rfl⟩⟩
  refine ⟨⟨hext [] (by simp), rfl, by simp [setW], fun k _ hk => ?_, fun _ _ h => .inl h, fun c hc => .inl hc, ⟨hR.own.nodup, fun c hc => ?_, hR.own.off, fun fl c hc => ?_, hR.own.sub⟩, rfl, rfl, rfl, fun _ h => .inl h⟩, hext, ?_⟩
  · show (w.heap.setIfInBounds b o)[k]? = w.heap[k]?
    rw [Array.getElem?_setIfInBounds, if_neg (fun e : b = k => hk (by subst e; exact hbL))]
  · show c < (setW w b o).heap.size
    rw [hsz]; exact hR.own.lt c hc
  · show c < (setW w b o).heap.size
    rw [hsz]; exact hR.own.stlt fl c hc
  · show (w.heap.setIfInBounds b o)[b]? = some o
    rw [Array.getElem?_setIfInBounds, if_pos rfl, if_pos hlt]

/-- A map's block written. -/
theorem map_core (hR : R E s a w L) {id : Nat} {ks vs ks' vs' : List AV} (hl : look id s.b = some (.map ks vs)) {x : Loc} {b : Nat} (hg : E.g id = some x) (hx : x.blk = some b) {es : Array MapEntry} {clock : Nat}
    (h1 : RepL E ks' (es.toList.map (·.key)) []) (h2 : RepL E vs' (es.toList.map (·.val)) []) :
    ∃ E' L', R E' { s with b := setB id (.map ks' vs') s.b } a (setW w b (.map es clock)) L' ∧ Move E w L E' (setW w b (.map es clock)) L' := by
  obtain ⟨p, l, q, hL, hbr, hset⟩ := hR.blk.set hl hR.keys
  cases hbr with
  | @map _ _ x' b' es0 c0 hg' ho hx' hb' hk' hv' =>
    obtain rfl : x = x' := by rw [hg] at hg'; injection hg'
    obtain rfl : b = b' := by rw [hx] at hx'; injection hx'
    have hbL : b ∈ L := by rw [hL]; simp
    obtain ⟨hm, hext, hnew⟩ := heap_move hR hbL (.map es clock)
    have hnd := hR.own.nodup
    have hbpq : b ∉ p ++ q := by
      rw [hL] at hnd
      intro hm
      rw [List.nodup_append] at hnd
      obtain ⟨h1, h2, h3⟩ := hnd
      rcases List.mem_append.1 hm with hm | hm
      · exact h3 b hm b (by simp) rfl
      · rw [List.cons_append, List.nodup_cons] at h2
        exact h2.1 (by simp [hm])
    have hB := hset { h := (setW w b (.map es clock)).heap, st := E.st, g := E.g } (.map ks' vs') [b] (.map (x := x) hg ho hx hnew (h1.ext (hext [] (by simp))) (h2.ext (hext [] (by simp)))) (hext _ hbpq) (fun _ _ _ => rfl)
    rw [← hL] at hB
    exact ⟨_, _, hR.step hm (b := setB id (.map ks' vs') s.b) (n := s.n) hB (by rw [keys_setB]; exact hR.keys) hR.gn, hm⟩

theorem setM_now {lk : LK} {k v : AV} {ck cv : Value} (hk : Rep E k ck []) (hv : Rep E v cv []) : ∀ {ks vs ks' vs' : List AV} {es : List MapEntry} {i : Nat}, RepL E ks (es.map (·.key)) [] → RepL E vs (es.map (·.val)) [] → setM lk k v ks vs = some (ks', vs') →
    (Instr.findNow (lkT lk) ck es i = some none ∧ ∀ e : MapEntry, e.key = ck → e.val = cv → RepL E ks' ((es ++ [e]).map (·.key)) [] ∧ RepL E vs' ((es ++ [e]).map (·.val)) []) ∨
    (∃ j u, Instr.findNow (lkT lk) ck es i = some (some (i + j, u)) ∧ (∃ e, es[j]? = some e ∧ Instr.sameBits 10000 e.key ck = true) ∧
      RepL E ks' ((es.modify j fun e => { e with key := ck, val := cv }).map (·.key)) [] ∧ RepL E vs' ((es.modify j fun e => { e with key := ck, val := cv }).map (·.val)) [])
  | [], vs, ks', vs', es, i, h1, h2, h => by
    cases es with
    | cons e es => cases h1
    | nil =>
      cases h2
      simp only [setM, Option.some.injEq, Prod.mk.injEq] at h
      obtain ⟨rfl, rfl⟩ := h
      refine .inl ⟨rfl, fun e h3 h4 => ?_⟩
      subst h3 h4
      exact ⟨.cons (l := []) (m := []) hk .nil, .cons (l := []) (m := []) hv .nil⟩
  | x :: ks, vs, ks', vs', es, i, h1, h2, h => by
    cases es with
    | nil => cases h1
    | cons e es =>
      cases vs with
      | nil => cases h2
      | cons y vs =>
        obtain ⟨c1, cs1, l1, l2, e1, hl, g1, g2⟩ := h1.inv
        obtain ⟨rfl, rfl⟩ : l1 = [] ∧ l2 = [] := by simpa using hl.symm
        obtain ⟨c2, cs2, l3, l4, e2, hl2, g3, g4⟩ := h2.inv
        obtain ⟨rfl, rfl⟩ : l3 = [] ∧ l4 = [] := by simpa using hl2.symm
        simp only [List.map_cons, List.cons.injEq] at e1 e2
        obtain ⟨rfl, rfl⟩ := e1
        obtain ⟨rfl, rfl⟩ := e2
        simp only [setM, Option.bind_eq_some_iff] at h
        obtain ⟨q, hq, h⟩ := h
        obtain ⟨hn, hsame⟩ := eqK_now hk g1 hq
        cases q with
        | true =>
          simp only [if_true, Option.some.injEq, Prod.mk.injEq] at h
          obtain ⟨rfl, rfl⟩ := h
          refine .inr ⟨0, e.val, by simp [Instr.findNow, hn], ⟨e, rfl, hsame rfl⟩, ?_, ?_⟩
          · exact .cons (l := []) (m := []) hk g2
          · exact .cons (l := []) (m := []) hv g4
        | false =>
          simp only [Bool.false_eq_true, if_false, Option.map_eq_some_iff] at h
          obtain ⟨r, hr, h⟩ := h
          simp only [Prod.mk.injEq] at h
          obtain ⟨rfl, rfl⟩ := h
          rcases setM_now hk hv (i := i + 1) g2 g4 (ks' := r.1) (vs' := r.2) hr with ⟨h5, h6⟩ | ⟨j, u, h5, h6, h7, h8⟩
          · refine .inl ⟨by simpa [Instr.findNow, hn] using h5, fun e' h3 h4 => ?_⟩
            obtain ⟨h7, h8⟩ := h6 e' h3 h4
            exact ⟨.cons (l := []) (m := []) g1 h7, .cons (l := []) (m := []) g3 h8⟩
          · refine .inr ⟨j + 1, u, by simp [Instr.findNow, hn, h5]; omega, by simpa using h6, ?_, ?_⟩
            · exact .cons (l := []) (m := []) g1 h7
            · exact .cons (l := []) (m := []) g3 h8

theorem mapSet_did (hR : R E s a w L) {t : TypeId} {m k v : AV} {cm ck cv : Value} {kk : TypeId × TypeId} {lk : LK} (hm : Rep E m cm []) (hk : Rep E k ck []) (hv : Rep E v cv []) (hkk : mapK (kindT P t) = some kk)
    (hlk : keyK (kindT P kk.1) = some lk) (h : outW Sp (mapSetO s m k v lk) K) : DidU E s a w L K ((Instr.mapUpdate t cm ck cv).run P w) := by
  have hu := kind_map (k := kk.1) (e := kk.2) hkk
  have hku := kind_key hlk
  cases m
  case mp id =>
    simp only [mapSetO] at h
    obtain ⟨r, hr, hA⟩ := outW_okO h
    obtain ⟨q, hq, hB⟩ := outW_okO hA
    obtain ⟨blk, hl, hg⟩ := Option.bind_eq_some_iff.1 hr
    cases blk <;> simp [getMap] at hg
    rename_i ks vs
    subst hg
    obtain ⟨l, hbr, _⟩ := hR.get hl
    cases hm with
    | @mp _ x b1 hg ho hb1 =>
      cases hbr with
      | @map _ _ x' b2 es clock hg' ho' hx' hb' hk' hv' =>
        obtain rfl : x = x' := by rw [hg] at hg'; injection hg'
        obtain rfl : b1 = b2 := by rw [hb1] at hx'; injection hx'
        have hbw : w.heap[b1]? = some (.map es clock) := by rw [← hR.heap]; exact hb'
        rcases setM_now hk hv (i := 0) hk' hv' (ks' := q.1) (vs' := q.2) hq with ⟨h5, h6⟩ | ⟨j, u, h5, ⟨e, he, hsb⟩, h7, h8⟩
        · obtain ⟨h7, h8⟩ := h6 { key := ck, val := cv, born := clock } rfl rfl
          obtain ⟨E', L', hR', hm'⟩ := map_core hR hl hg hb1 (es := es.push { key := ck, val := cv, born := clock }) (clock := clock + 1) (by simpa using h7) (by simpa using h8)
          refine ⟨_, E', _, L', hB, hR', hm', ?_⟩
          unfold Instr.mapUpdate
          simp only [Sem.run_bind, run_underlying hu, Result.andThen_ok, MapKept.run_getObj_map hbw, run_check hku, run_find hku h5, MapKept.run_setObj_map _ hbw]
          rfl
        · rw [Nat.zero_add] at h5
          have hea : es[j]? = some e := by rw [← Array.getElem?_toList]; exact he
          obtain ⟨E', L', hR', hm'⟩ := map_core hR hl hg hb1 (es := es.modify j fun e => { e with key := ck, val := cv }) (clock := clock) (by simpa using h7) (by simpa using h8)
          refine ⟨_, E', _, L', hB, hR', hm', ?_⟩
          unfold Instr.mapUpdate
          simp only [Sem.run_bind, run_underlying hu, Result.andThen_ok, MapKept.run_getObj_map hbw, run_check hku, run_find hku h5, Instr.keyThatStays, hea, Option.map_some, Option.getD_some, hsb, if_true, Sem.run_pure, MapKept.run_setObj_map _ hbw]
          rfl
  all_goals exact h.elim

theorem makeMap_did (hR : R E s a w L) {m : Sem Value} (hr : m.run P w = .ok (.map (some w.heap.size)) (w.alloc (.map #[] 0))) (h : outW Sp (makeMapO s) K) : Did E s a w L K (m.run P w) := by
  let x : Loc := ⟨true, some w.heap.size, 0, 0, 0⟩
  obtain ⟨hmv, hext, hnew⟩ := alloc_move hR w rfl rfl rfl rfl (.map #[] 0) (g := updG E.g s.n x) (fun id y hy => ⟨y, updG_old hR.gn id y hy, .inl rfl⟩) (L' := L) hR.own.nodup fun _ h => h
  rw [hr]
  refine ⟨_, _, _, _, _, _, h, hR.step hmv (b := (s.n, .map [] []) :: s.b) (n := s.n + 1) ?_ ?_ (updG_lt hR.gn), hmv, .mp (l := x) updG_new rfl rfl, rfl, fun h => nomatch h⟩
  · have hb : BlkRep { h := (w.alloc (.map #[] 0)).heap, st := E.st, g := updG E.g s.n x } s.n (.map [] []) [w.heap.size] := .map (x := x) updG_new rfl rfl hnew .nil .nil
    exact Blks.cons (l := [w.heap.size]) hb (hR.blk.ext (hext L fun _ h => h) fun id hid => by
      have := hR.keysLt id hid
      simp only [updG, if_neg (show ¬ id = s.n by omega)])
  · simp only [List.map_cons, List.nodup_cons]
    exact ⟨fun hm => by have := hR.keysLt _ hm; omega, hR.keys⟩
theorem makeMap_run {t : TypeId} : (Instr.makeMap t none).run P w = .ok (.map (some w.heap.size)) (w.alloc (.map #[] 0)) := rfl
theorem makeMap_runS {t : TypeId} {kk : TypeId × TypeId} (hkk : mapK (kindT P t) = some kk) {v : AV} {cv : Value} {n : Int} (hv : Rep E v cv []) (hn : intOf v = some n) : (Instr.makeMap t (some cv)).run P w = .ok (.map (some w.heap.size)) (w.alloc (.map #[] 0)) := by
  have hu := kind_map (k := kk.1) (e := kk.2) hkk
  unfold intOf at hn
  split at hn
  · cases hv
    unfold Instr.makeMap
    simp only [Sem.run_bind, run_underlying hu, Result.andThen_ok, asInt, Sem.run_pure]
    rfl
  · cases hn
end Go.Ev
