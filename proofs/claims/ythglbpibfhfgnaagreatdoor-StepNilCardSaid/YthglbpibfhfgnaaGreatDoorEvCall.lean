/-
What a call takes along, and what comes back.
-/
import Derived.Test.YthglbpibfhfgnaaGreatDoorEvBuild2
set_option linter.unusedVariables false
set_option linter.unusedSimpArgs false
namespace Go.Ev
variable {Sp : FuncId → List AV → AV → List AV → Prop} {P : Program} {E : Env} {s : S} {a : Act} {w : World} {L : List Nat} {K : S → AV → Prop}

structure FoldOk (E : Env) (v' : AV) (cv : Value) (b b' : Mem) (l L l' L' rest : List Nat) (v : AV) : Prop where
  rep : Rep E v' cv l'
  blk : Blks E b' L'
  perm : (l' ++ (L' ++ rest)).Perm (l ++ L)
  bd : Bd 0 v'
  keys : (b'.map (·.1)).Sublist (b.map (·.1))
  c1 : C1 v = true → C1 v' = true
structure FoldOkL (E : Env) (v' : List AV) (cv : List Value) (b b' : Mem) (l L l' L' rest : List Nat) (v : List AV) : Prop where
  rep : RepL E v' cv l'
  blk : Blks E b' L'
  perm : (l' ++ (L' ++ rest)).Perm (l ++ L)
  bd : BdL 0 v'
  keys : (b'.map (·.1)).Sublist (b.map (·.1))
  c1 : allC1 v = true → allC1 v' = true
  len : v'.length = v.length

theorem rep_all {a : AV} {cv : Value} (h : Rep E a cv []) {b : Mem} {L : List Nat} (hb : Blks E b L) (hbd : Bd 0 a) : True := trivial

theorem take_flat {els : List AV} {sz n : Nat} (hz : ∀ e ∈ els, okE sz e) : flat (els.take n) = (flat els).take (n * sz) := by
  have := flat_drop_take (l := 0) (n := n) hz
  simpa using this

theorem fold_ok_both : ∀ (k : Nat),
    (∀ (b : Mem) (v v' : AV) (b' : Mem) (p : Prop), fold k b v = some (v', b', p) → p → ∀ (cv : Value) (l L : List Nat), Rep E v cv l → Blks E b L → (b.map (·.1)).Nodup → ∃ l' L' rest, FoldOk E v' cv b b' l L l' L' rest v) ∧
    (∀ (b : Mem) (v v' : List AV) (b' : Mem) (p : Prop), foldL k b v = some (v', b', p) → p → ∀ (cv : List Value) (l L : List Nat), RepL E v cv l → Blks E b L → (b.map (·.1)).Nodup → ∃ l' L' rest, FoldOkL E v' cv b b' l L l' L' rest v)
  | 0 => ⟨fun b v v' b' p h => by simp [fold] at h, fun b v v' b' p h => by simp [foldL] at h⟩
  | k + 1 => by
    obtain ⟨ih1, ih2⟩ := fold_ok_both k
    constructor
    · intro b v v' b' p h hp cv l L hv hb hk
      have dflt : some (v, b, Bd 0 v) = some (v', b', p) → ∃ l' L' rest, FoldOk E v' cv b b' l L l' L' rest v := by
        intro h
        simp only [Option.some.injEq, Prod.mk.injEq] at h
        obtain ⟨rfl, rfl, rfl⟩ := h
        exact ⟨l, L, [], ⟨hv, hb, by simp, hp, List.Sublist.refl _, fun h => h⟩⟩
      cases v
      case row id n off len =>
        simp only [fold] at h
        split at h
        · -- a row that is written no more
          rename_i sz els hl
          simp only [Option.some.injEq, Prod.mk.injEq] at h
          obtain ⟨rfl, rfl, rfl⟩ := h
          obtain ⟨hn, hle, hbd⟩ := hp
          obtain ⟨pp, lb, q, hL, hbr, hrest⟩ := hb.get hl
          cases hv with
          | @row _ _ _ _ x _ hg ho hn' hv' hh =>
            refine ⟨[], L, [], ⟨?_, hb, by simp, bdL_of fun v hv => bdL_mem hbd v (List.mem_of_mem_drop (List.mem_of_mem_take hv)), List.Sublist.refl _, fun _ => rfl⟩⟩
            have hlen : ((els.drop off).take len).length = len := by simp; omega
            cases hbr with
            | nil => obtain ⟨a', c', rfl⟩ := hv'; simp at hn hlen; subst hlen; simp; exact .lst0 _ _ _ _
            | @frz _ _ x' b1 cells ty fz hg' ho' hx' hn'' hs' hb' hst hl' hm hz' hh' =>
              obtain rfl : x = x' := by rw [hg] at hg'; injection hg'
              obtain ⟨ao, rfl, hat⟩ := hh (by rw [hn'', hn])
              by_cases hemp : len = 0
              · subst hemp; simp only [List.take_zero]; exact .lst0 _ _ _ _
              · have hao := hat (.inl (by omega))
                rw [hx'] at hao
                subst hao
                simp only [Option.map_some]
                have key : Rep E (.lst true sz ((els.drop off).take len)) (.slice (some ⟨b1, off * x.sz, none⟩) ((els.drop off).take len).length (x.cap - off)) [] := by
                  refine .lst (cap := x.cap - off) (vs := ((cells.toList.take (els.length * sz)).drop (off * sz)).take (len * sz)) (fun h' => by rw [h'] at hlen; simp at hlen; omega) (by omega) (by omega) hst (fun e he => hz' e (List.mem_of_mem_drop (List.mem_of_mem_take he))) (fun j v hj => ?_) ?_
                  · rw [hs']
                    have h1 : (cells.toList.take (els.length * sz))[off * sz + j]? = some v := by
                      rw [List.getElem?_take] at hj
                      split at hj
                      · rw [List.getElem?_drop] at hj; exact hj
                      · cases hj
                    rw [List.getElem?_take] at h1
                    split at h1
                    · unfold cellAt; rw [hb']; show cells[_]? = _; rw [← Array.getElem?_toList]; exact h1
                    · cases h1
                  · rw [flat_drop_take (l := off) (n := len) hz']
                    exact (hh'.drop _).take _
                rw [hlen] at key
                exact key
        · -- a row
          rename_i sz els hl
          simp only [Option.some.injEq, Prod.mk.injEq] at h
          obtain ⟨rfl, rfl, rfl⟩ := h
          obtain ⟨hn, rfl, hle, hbd⟩ := hp
          obtain ⟨pp, lb, q, hL, hbr, hrest⟩ := hb.get hl
          have hkeys : ((delB id b).map (·.1)).Sublist (b.map (·.1)) := by rw [keys_delB]; exact List.erase_sublist
          have hbdt : BdL 0 (els.take len) := bdL_of fun v hv => bdL_mem hbd v (List.mem_of_mem_take hv)
          cases hv with
          | @row _ _ _ _ x _ hg ho hn' hv' hh =>
            cases hbr with
            | @nil _ _ x' hg' ho' hx' hc' hn'' hz0 =>
              obtain rfl : x = x' := by rw [hg] at hg'; injection hg'
              have hn0 : n = 0 := by simpa using hn
              subst hn0
              obtain ⟨ao, rfl, hat⟩ := hh hn''
              have := hat (.inr rfl)
              rw [hx'] at this
              simp only [Option.map_none] at this
              subst this
              have hl0 : len = 0 := by omega
              subst hl0
              refine ⟨[], pp ++ q, [], ⟨by rw [hc']; exact .olst0 _, hrest, by simp [hL], by simp [Bd, BdL], hkeys, fun _ => rfl⟩⟩
            | @row _ _ x' b1 cells ty fz lb hg' ho' hx' hn'' hs' hb' hf hc hl' hm hz' hh' =>
              obtain rfl : x = x' := by rw [hg] at hg'; injection hg'
              obtain ⟨ao, rfl, hat⟩ := hh (by rw [hn'', hn])
              have hao := hat (.inr rfl)
              rw [hx'] at hao
              subst hao
              simp only [Option.map_some, Nat.zero_mul, Nat.sub_zero]
              have e1 : flat els = flat (els.take len) ++ flat (els.drop len) := by rw [← flat_append, List.take_append_drop]
              rw [e1] at hh'
              obtain ⟨v1, v2, l1, l2, hct, rfl, g1, g2⟩ := hh'.split
              have hlen : (els.take len).length = len := by simp; omega
              have hv1 : v1.length = len * sz := by rw [← g1.length, flat_len fun e he => hz' e (List.mem_of_mem_take he), hlen]
              have hct2 : cells.toList.take (len * sz) = v1 := by
                have : (cells.toList.take (els.length * sz)).take (len * sz) = v1 := by rw [hct, ← hv1, List.take_left]
                rw [List.take_take] at this
                rw [Nat.min_eq_left (Nat.mul_le_mul_right _ (by omega))] at this
                exact this
              refine ⟨b1 :: l1, pp ++ q, l2, ⟨?_, hrest, ?_, hbdt, hkeys, fun _ => rfl⟩⟩
              · have key : Rep E (.olst sz (els.take len)) (.slice (some ⟨b1, 0, none⟩) (els.take len).length x.cap) (b1 :: l1) :=
                  .olst hb' hf hc (by omega) (by omega) (fun e he => hz' e (List.mem_of_mem_take he)) (by rw [hlen, hct2]; exact g1)
                rw [hlen] at key
                exact key
              · rw [hL]
                simp only [List.cons_append, List.nil_append]
                refine List.perm_iff_count.2 fun y => ?_
                simp only [List.count_append, List.count_cons]
                omega
        · cases h
      case loc id j =>
        simp only [fold] at h
        split at h
        · rename_i e hl
          simp only [Option.map_eq_some_iff] at h
          obtain ⟨r, hr, h⟩ := h
          simp only [Prod.mk.injEq] at h
          obtain ⟨rfl, rfl, rfl⟩ := h
          obtain ⟨pp, lb, q, hL, hbr, hrest⟩ := hb.get hl
          have hkeys : ((delB id b).map (·.1)).Sublist (b.map (·.1)) := by rw [keys_delB]; exact List.erase_sublist
          cases hv with
          | @loc _ _ x b1 hg ho hb1 =>
            cases hbr with
            | @obj _ x' b2 cells ty fr lc hg' ho' hx' hb' hf h1 hh =>
              obtain rfl : x = x' := by rw [hg] at hg'; injection hg'
              obtain rfl : b1 = b2 := by rw [hb1] at hx'; injection hx'
              obtain ⟨l', L', rest, hok⟩ := ih2 _ _ _ _ _ hr hp _ _ _ hh hrest (hkeys.nodup hk)
              have hc1 := hok.c1 h1
              have hre := cells_re (e := e) hok.len hc1
              refine ⟨b1 :: l', L', rest, ⟨.optr hb' hf (by rw [hre]; exact hc1) (by rw [hre]; exact hok.rep), hok.blk, ?_, ?_, hok.keys.trans hkeys, fun _ => rfl⟩⟩
              · rw [hL]
                have := hok.perm
                refine List.perm_iff_count.2 fun y => ?_
                have h2 := List.perm_iff_count.1 this y
                simp only [List.count_append, List.count_cons, List.cons_append, List.nil_append] at h2 ⊢
                omega
              · show Bd 0 (reCells e r.1)
                have hbdl := hok.bd
                have hll := hok.len
                unfold reCells
                split
                · exact hbdl
                · cases hr1 : r.1 with
                  | nil => simp [Bd]
                  | cons c cs => rw [hr1] at hbdl; simp only [BdL] at hbdl; exact hbdl.1
        · cases h
      case mp id =>
        simp only [fold] at h
        split at h
        · rename_i ks vs hl
          obtain ⟨pp, lb, q, hL, hbr, hrest⟩ := hb.get hl
          simp only [Option.some.injEq, Prod.mk.injEq] at h
          obtain ⟨rfl, rfl, rfl⟩ := h
          have hkeys : ((delB id b).map (·.1)).Sublist (b.map (·.1)) := by rw [keys_delB]; exact List.erase_sublist
          cases hv with
          | @mp _ x b1 hg ho hb1 =>
            cases hbr with
            | @map _ _ x' b2 es clock hg' ho' hx' hb' hk' hv' =>
              obtain rfl : x = x' := by rw [hg] at hg'; injection hg'
              obtain rfl : b1 = b2 := by rw [hb1] at hx'; injection hx'
              refine ⟨[b1], pp ++ q, [], ⟨.omp hb' hk' hv', hrest, ?_, hp, hkeys, fun _ => rfl⟩⟩
              rw [hL]
              refine List.perm_iff_count.2 fun y => ?_
              simp only [List.count_append, List.count_cons, List.count_nil, List.cons_append, List.nil_append]
              omega
        · cases h
      case agg cs =>
        simp only [fold, Option.map_eq_some_iff] at h
        obtain ⟨r, hr, h⟩ := h
        simp only [Prod.mk.injEq] at h
        obtain ⟨rfl, rfl, rfl⟩ := h
        cases hv with
        | agg hv =>
          obtain ⟨l', L', rest, hok⟩ := ih2 _ _ _ _ _ hr hp _ _ _ hv hb hk
          exact ⟨l', L', rest, ⟨.agg hok.rep, hok.blk, hok.perm, hok.bd, hok.keys, fun h => by simp [C1] at h⟩⟩
      case tup cs =>
        simp only [fold, Option.map_eq_some_iff] at h
        obtain ⟨r, hr, h⟩ := h
        simp only [Prod.mk.injEq] at h
        obtain ⟨rfl, rfl, rfl⟩ := h
        cases hv with
        | tup hv =>
          obtain ⟨l', L', rest, hok⟩ := ih2 _ _ _ _ _ hr hp _ _ _ hv hb hk
          exact ⟨l', L', rest, ⟨.tup hok.rep, hok.blk, hok.perm, hok.bd, hok.keys, fun h => by simp [C1] at h⟩⟩
      case clo f cs =>
        simp only [fold, Option.map_eq_some_iff] at h
        obtain ⟨r, hr, h⟩ := h
        simp only [Prod.mk.injEq] at h
        obtain ⟨rfl, rfl, rfl⟩ := h
        cases hv with
        | clo hv =>
          obtain ⟨l', L', rest, hok⟩ := ih2 _ _ _ _ _ hr hp _ _ _ hv hb hk
          exact ⟨l', L', rest, ⟨.clo hok.rep, hok.blk, hok.perm, hok.bd, hok.keys, fun _ => rfl⟩⟩
      all_goals (simp only [fold] at h; exact dflt h)
    · intro b v v' b' p h hp cv l L hv hb hk
      cases v with
      | nil =>
        simp only [foldL, Option.some.injEq, Prod.mk.injEq] at h
        obtain ⟨rfl, rfl, rfl⟩ := h
        exact ⟨l, L, [], ⟨hv, hb, by simp, by simp [BdL], List.Sublist.refl _, fun h => h, rfl⟩⟩
      | cons v vs =>
        simp only [foldL, Option.bind_eq_some_iff, Option.map_eq_some_iff] at h
        obtain ⟨x, hx, y, hy, h⟩ := h
        simp only [Prod.mk.injEq] at h
        obtain ⟨rfl, rfl, rfl⟩ := h
        obtain ⟨cv1, cvs, l1, l2, rfl, rfl, h1, h2⟩ := hv.inv
        obtain ⟨l1', L1, rest1, hok1⟩ := ih1 _ _ _ _ _ hx hp.1 _ _ _ h1 hb hk
        obtain ⟨l2', L2, rest2, hok2⟩ := ih2 _ _ _ _ _ hy hp.2 _ _ _ h2 hok1.blk (hok1.keys.nodup hk)
        refine ⟨l1' ++ l2', L2, rest2 ++ rest1, ⟨.cons hok1.rep hok2.rep, hok2.blk, ?_, ?_, hok2.keys.trans hok1.keys, ?_, ?_⟩⟩
        · refine List.perm_iff_count.2 fun z => ?_
          have e1 := List.perm_iff_count.1 hok1.perm z
          have e2 := List.perm_iff_count.1 hok2.perm z
          simp only [List.count_append] at e1 e2 ⊢
          omega
        · simp only [BdL]; exact ⟨hok1.bd, hok2.bd⟩
        · intro h
          simp only [allC1, Bool.and_eq_true] at h ⊢
          exact ⟨hok1.c1 h.1, hok2.c1 h.2⟩
        · simp [hok2.len]
end Go.Ev
