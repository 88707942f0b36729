/-
Reading and writing own memory.
-/
import Derived.Test.YthglbpibfhfgnaaGreatDoorEvOps6
set_option linter.unusedVariables false
namespace Go.Ev
variable {Sp : FuncId → List AV → AV → List AV → Prop} {P : Program} {E : Env} {s : S} {a : Act} {w : World} {L : List Nat} {K : S → AV → Prop}

mutual
theorem unf_same : ∀ (v : AV) (cv : Value) (b : Mem) (n : Nat) (l : List Nat), Rep E v cv l → n ≤ (unf v b n).2.2 ∧ ((unf v b n).2.2 = n → l = [])
  | .olst sz els, _, _, n, _, _ => by simp only [unf]; exact ⟨by omega, fun h => by omega⟩
  | .optr _ _, _, _, _, _, _ => by simp only [unf]; exact ⟨by omega, fun h => by omega⟩
  | .omp _ _, _, _, _, _, _ => by simp only [unf]; exact ⟨by omega, fun h => by omega⟩
  | .agg cs, _, b, n, _, h => by cases h with | agg h => exact unfL_same cs _ b n _ h
  | .tup cs, _, b, n, _, h => by cases h with | tup h => exact unfL_same cs _ b n _ h
  | .clo _ cs, _, b, n, _, h => by cases h with | clo h => exact unfL_same cs _ b n _ h
  | .bool _, _, _, _, _, h => by cases h; exact ⟨Nat.le_refl _, fun _ => rfl⟩
  | .int _ _, _, _, _, _, h => by cases h; exact ⟨Nat.le_refl _, fun _ => rfl⟩
  | .str _, _, _, _, _, h => by cases h; exact ⟨Nat.le_refl _, fun _ => rfl⟩
  | .nilp, _, _, _, _, h => by cases h; exact ⟨Nat.le_refl _, fun _ => rfl⟩
  | .loc _ _, _, _, _, _, h => by cases h; exact ⟨Nat.le_refl _, fun _ => rfl⟩
  | .elp _ _ _ _, _, _, _, _, h => by cases h; exact ⟨Nat.le_refl _, fun _ => rfl⟩
  | .fz _, _, _, _, _, h => by cases h; exact ⟨Nat.le_refl _, fun _ => rfl⟩
  | .lst _ _ _, _, _, _, _, h => by cases h <;> exact ⟨Nat.le_refl _, fun _ => rfl⟩
  | .row _ _ _ _, _, _, _, _, h => by cases h; exact ⟨Nat.le_refl _, fun _ => rfl⟩
  | .rowc _ _ _ _, _, _, _, _, h => by cases h; exact ⟨Nat.le_refl _, fun _ => rfl⟩
  | .nilf, _, _, _, _, h => by cases h; exact ⟨Nat.le_refl _, fun _ => rfl⟩
  | .nili, _, _, _, _, h => by cases h; exact ⟨Nat.le_refl _, fun _ => rfl⟩
  | .nilm, _, _, _, _, h => by cases h; exact ⟨Nat.le_refl _, fun _ => rfl⟩
  | .mp _, _, _, _, _, h => by cases h; exact ⟨Nat.le_refl _, fun _ => rfl⟩
  | .undef, _, _, _, _, h => by cases h; exact ⟨Nat.le_refl _, fun _ => rfl⟩
theorem unfL_same : ∀ (v : List AV) (cv : List Value) (b : Mem) (n : Nat) (l : List Nat), RepL E v cv l → n ≤ (unfL v b n).2.2 ∧ ((unfL v b n).2.2 = n → l = [])
  | [], _, _, _, _, h => by cases h; exact ⟨Nat.le_refl _, fun _ => rfl⟩
  | v :: vs, _, b, n, _, h => by
    cases h with
    | cons h t =>
      obtain ⟨h1, h2⟩ := unf_same v _ b n _ h
      obtain ⟨h3, h4⟩ := unfL_same vs _ (unf v b n).2.1 (unf v b n).2.2 _ t
      simp only [unfL]
      refine ⟨Nat.le_trans h1 h3, fun e => ?_⟩
      have e1 : (unf v b n).2.2 = n := by omega
      rw [h2 e1, h4 (by omega)]
      rfl
end

theorem C1_unf (v : AV) (b : Mem) (n : Nat) (h : C1 v = true) : C1 (unf v b n).1 = true := by
  cases v <;> first | rfl | (simp [C1] at h)
theorem allC1_unfL : ∀ (v : List AV) (b : Mem) (n : Nat), allC1 v = true → allC1 (unfL v b n).1 = true
  | [], _, _, _ => rfl
  | v :: vs, b, n, h => by
    simp only [allC1, Bool.and_eq_true] at h
    simp only [unfL, allC1, Bool.and_eq_true]
    exact ⟨C1_unf v b n h.1, allC1_unfL vs _ _ h.2⟩
theorem len_unfL : ∀ (v : List AV) (b : Mem) (n : Nat), (unfL v b n).1.length = v.length
  | [], _, _ => rfl
  | v :: vs, b, n => by simp [unfL, len_unfL vs]

theorem cells_re {e : AV} {cs : List AV} (hl : cs.length = (cellsOf e).length) (h1 : allC1 cs = true) : cellsOf (reCells e cs) = cs := by
  have one : (cellsOf e).length = 1 → cellsOf (cs.headD .undef) = cs := by
    intro h
    rw [h] at hl
    obtain ⟨c, rfl⟩ := List.length_eq_one_iff.1 hl
    have : C1 c = true := by simpa [allC1] using h1
    cases c <;> first | rfl | (simp [C1] at this)
  cases e <;> first | rfl | exact one rfl

theorem mid_split (cs : List AV) (j n : Nat) (h : j + n ≤ cs.length) : cs = cs.take j ++ ((cs.drop j).take n ++ cs.drop (j + n)) := by
  rw [← List.drop_drop, List.take_append_drop, List.take_append_drop]

/-- Some cells of a block are taken in. -/
theorem open_cells (hR : R E s a w L) {id : Nat} {p l q : List Nat} (hL : L = p ++ (l ++ q)) (hrest : Blks E (delB id s.b) (p ++ q)) (hid : id ∈ s.b.map (·.1))
    {mid : List AV} {v2 : List Value} {lb l1 l2 l3 : List Nat} (hl : l = lb ++ (l1 ++ (l2 ++ l3))) (h2 : RepL E mid v2 l2) (mk : List AV → Blk)
    (hmk : ∀ g : Nat → Option Loc, (∀ id x, E.g id = some x → g id = some x) → ∀ cs, RepL { E with g := g } cs v2 [] → (allC1 mid = true → allC1 cs = true) → cs.length = mid.length → BlkRep { E with g := g } id (mk cs) (lb ++ (l1 ++ l3))) :
    ∃ E' L', R E' { s with b := (id, mk (unfL mid (delB id s.b) s.n).1) :: (unfL mid (delB id s.b) s.n).2.1, n := (unfL mid (delB id s.b) s.n).2.2 } a w L' ∧ Move E w L E' w L' ∧ RepL E' (unfL mid (delB id s.b) s.n).1 v2 [] := by
  have hkd : ((delB id s.b).map (·.1)).Nodup := by rw [keys_delB]; exact hR.keys.erase _
  have hltd : ∀ k ∈ (delB id s.b).map (·.1), k < s.n := fun k hk => hR.keysLt k (by rw [keys_delB] at hk; exact List.mem_of_mem_erase hk)
  obtain ⟨g, L1, r⟩ := unfL_ok hR.own.sub mid v2 (delB id s.b) s.n l2 (p ++ q) h2 hrest hR.gn hkd hltd
  have hb := hmk g r.old _ r.rep (fun h => allC1_unfL _ _ _ h) (len_unfL _ _ _)
  have hperm : (lb ++ (l1 ++ l3) ++ L1).Perm L := by
    rw [hL, hl]
    have e1 : (lb ++ (l1 ++ l3) ++ L1).Perm (lb ++ (l1 ++ l3) ++ (l2 ++ (p ++ q))) := r.perm.append_left _
    refine e1.trans ?_
    refine List.perm_iff_count.2 fun x => ?_
    simp only [List.count_append]
    omega
  have hm : Move E w L { E with g := g } w (lb ++ (l1 ++ l3) ++ L1) := .same hR.heap hR.own r.old (hperm.nodup_iff.2 hR.own.nodup) fun b hb => hperm.mem_iff.1 hb
  refine ⟨_, _, hR.step hm (.cons hb r.blk) ?_ r.gn, hm, r.rep⟩
  simp only [List.map_cons, List.nodup_cons]
  refine ⟨fun hmem => ?_, r.keys⟩
  rcases r.kk id hmem with h | h
  · rw [keys_delB] at h
    exact (List.Nodup.mem_erase_iff hR.keys).1 h |>.1 rfl
  · have := hR.keysLt id hid; omega

theorem load_core (hR : R E s a w L) {id : Nat} {e : AV} {j n : Nat} {ag : Bool} {mk : List AV → Blk} {p l q : List Nat} (hL : L = p ++ (l ++ q)) (hrest : Blks E (delB id s.b) (p ++ q)) (hid : id ∈ s.b.map (·.1))
    {v2 : List Value} {lb l1 l2 l3 : List Nat} (hl : l = lb ++ (l1 ++ (l2 ++ l3))) (h2 : RepL E (((cellsOf e).drop j).take n) v2 l2)
    (hmk : ∀ g : Nat → Option Loc, (∀ id x, E.g id = some x → g id = some x) → ∀ cs, RepL { E with g := g } cs v2 [] → (allC1 (((cellsOf e).drop j).take n) = true → allC1 cs = true) → cs.length = (((cellsOf e).drop j).take n).length →
      BlkRep { E with g := g } id (mk (putAt (cellsOf e) j cs)) (lb ++ (l1 ++ l3)))
    (h : outW Sp (loadE s ag n mk id e j) K) : DidG true E s a w L K (.ok (if ag then .agg v2.toArray else v2.headD undef) w) := by
  obtain ⟨⟨hn, hle⟩, h⟩ := h
  have hv : 0 < v2.length := by
    rw [← h2.length, List.length_take, List.length_drop]
    omega
  unfold loadK at h
  split at h
  · rename_i he
    obtain ⟨_, h5⟩ := unfL_same _ _ s.b s.n _ h2
    obtain rfl := h5 he
    exact did_ok hR h (ofCells_rep h2 hv)
  · obtain ⟨E', L', hR', hm, hr⟩ := open_cells hR hL hrest hid hl h2 (fun cs => mk (putAt (cellsOf e) j cs)) hmk
    exact ⟨_, _, E', w, L', _, h, hR', hm, ofCells_rep hr hv, rfl, fun _ => rfl⟩

theorem Rep.ext0 {E' : Env} {v : AV} {cv : Value} {l : List Nat} (h : Rep E v cv l) {g : Nat → Option Loc} (hs : ∀ b, E.st true b → E.st false b) (old : ∀ id x, E.g id = some x → g id = some x) : Rep { E with g := g } v cv l := h.ext (.gOnly hs old)

theorem look_in {id : Nat} {blk : Blk} {b : Mem} (h : look id b = some blk) : id ∈ b.map (·.1) := look_mem h

theorem flat_append (as bs : List AV) : flat (as ++ bs) = flat as ++ flat bs := by unfold flat; exact List.flatMap_append
theorem flat_set {els : List AV} {i : Nat} {e e' : AV} (h : els[i]? = some e) : flat (els.set i e') = flat (els.take i) ++ (cellsOf e' ++ flat (els.drop (i + 1))) := by
  obtain ⟨hi, rfl⟩ := List.getElem?_eq_some_iff.1 h
  have : els.set i e' = els.take i ++ (e' :: els.drop (i + 1)) := by
    rw [List.set_eq_take_append_cons_drop, if_pos hi]
  rw [this, flat_append]
  congr 1
theorem okE_set {els : List AV} {sz i : Nat} {e' : AV} (hz : ∀ e ∈ els, okE sz e) (h : okE sz e') : ∀ e ∈ els.set i e', okE sz e := fun e he => by
  rcases List.mem_or_eq_of_mem_set he with he | rfl
  · exact hz e he
  · exact h

/-- A part of an element's cells within all cells of a row, and what becomes of all if it is another one. -/
theorem flat_mid {els : List AV} {sz i j n : Nat} {e : AV} (hz : ∀ e ∈ els, okE sz e) (h : els[i]? = some e) (hle : j + n ≤ (cellsOf e).length) :
    ∃ A B, flat els = A ++ (((cellsOf e).drop j).take n ++ B) ∧ A.length = i * sz + j ∧ ∀ cs, cs.length = n → (allC1 (((cellsOf e).drop j).take n) = true → allC1 cs = true) →
      flat (els.set i (reCells e (putAt (cellsOf e) j cs))) = A ++ (cs ++ B) ∧ okE sz (reCells e (putAt (cellsOf e) j cs)) := by
  have hi := (List.getElem?_eq_some_iff.1 h).1
  have hoe := hz e (List.mem_of_getElem? h)
  refine ⟨flat (els.take i) ++ (cellsOf e).take j, (cellsOf e).drop (j + n) ++ flat (els.drop (i + 1)), ?_, ?_, fun cs hcs hall => ?_⟩
  · rw [flat_split h]
    conv => lhs; rw [mid_split (cellsOf e) j n hle]
    simp
  · rw [List.length_append, flat_len (sz := sz) fun x hx => hz x (List.mem_of_mem_take hx), List.length_take, List.length_take]
    rw [Nat.min_eq_left (by omega), Nat.min_eq_left (by omega)]
  · have hput : putAt (cellsOf e) j cs = (cellsOf e).take j ++ (cs ++ (cellsOf e).drop (j + n)) := by simp [putAt, hcs]
    have hpl : (putAt (cellsOf e) j cs).length = (cellsOf e).length := by rw [hput]; simp [hcs]; omega
    have hc1 : allC1 (putAt (cellsOf e) j cs) = true := by
      have h1 := hoe.2
      rw [mid_split (cellsOf e) j n hle] at h1
      rw [hput]
      simp only [allC1_append, Bool.and_eq_true] at h1 ⊢
      exact ⟨h1.1, hall h1.2.1, h1.2.2⟩
    have hre := cells_re (e := e) hpl hc1
    refine ⟨?_, ?_, ?_⟩
    · rw [flat_set h, hre, hput]; simp
    · rw [hre, hpl]; exact hoe.1
    · rw [hre]; exact hc1

theorem at_take {h : Array Obj} {b : Nat} {cells : Array Value} {ty : TypeId} {fr : Nat × Nat} {m o : Nat} {v1 v2 v3 : List Value} (hb : h[b]? = some (.cells cells ty fr)) (hc : cells.toList.take m = v1 ++ (v2 ++ v3)) (ho : v1.length = o) : At h b o v2 := by
  intro k v hk
  unfold cellAt
  rw [hb]
  show cells[o + k]? = some v
  have h1 : (cells.toList.take m)[o + k]? = some v := by
    rw [hc, List.getElem?_append_right (by omega), List.getElem?_append_left (by
      have := (List.getElem?_eq_some_iff.1 hk).1; omega), show o + k - v1.length = k by omega]
    exact hk
  rw [List.getElem?_take] at h1
  split at h1
  · rw [← Array.getElem?_toList]; exact h1
  · cases h1

theorem load_did (hR : R E s a w L) {t : TypeId} {p : AV} {cp : Value} (hp : Rep E p cp []) (h : outW Sp (okO (aggO P t) fun ag => loadO s ag (szT P t) p) K) :
    DidG true E s a w L K ((Instr.loadAt t cp).run P w) := by
  obtain ⟨ag, hag, h'⟩ := outW_okO h
  clear h
  unfold loadO at h'
  split at h'
  · rename_i cs
    obtain ⟨⟨h0, hle⟩, h⟩ := h'
    cases hp with
    | @fz _ b o vs hs ha hh =>
      have hl := hh.length
      have ha' : At w.heap b o (vs.take (szT P t)) := by
        intro k v hk
        rw [List.getElem?_take] at hk
        split at hk
        · rw [← hR.heap]; exact ha k v hk
        · cases hk
      rw [loadAt_run, loadVar_run hag h0 ha' (by simp; omega)]
      exact did_ok hR h (ofCells_rep (hh.take _) (by simp; omega))
  · rename_i id j
    obtain ⟨e, he, h⟩ := outW_okO h'
    obtain ⟨blk, hlook, hobj⟩ := Option.bind_eq_some_iff.1 he
    cases blk <;> simp [getObj] at hobj
    subst hobj
    rename_i e
    obtain ⟨pp, l, q, hL, hb, hrest⟩ := hR.blk.get hlook
    have hneed := h.1
    cases hb with
    | @obj _ x b cells ty fr l hg ho hx hb hf h1 hh =>
      cases hp with
      | @loc _ _ y b' hg' ho' hb' =>
        obtain rfl : x = y := by rw [hg] at hg'; injection hg'
        obtain rfl : b = b' := by rw [hx] at hb'; injection hb'
        have hsp := mid_split (cellsOf e) j (szT P t) hneed.2
        rw [hsp] at hh
        obtain ⟨v1, v23, l1, l23, hc, rfl, g1, g23⟩ := hh.split
        obtain ⟨v2, v3, l2, l3, rfl, rfl, g2, g3⟩ := g23.split
        have hv1 : v1.length = j := by rw [← g1.length]; simp; omega
        have hv2 : v2.length = szT P t := by rw [← g2.length]; simp; omega
        have ha : At w.heap b j v2 := by
          intro k v hk
          rw [← hR.heap]
          unfold cellAt
          rw [hb]
          show cells[j + k]? = some v
          rw [← Array.getElem?_toList, hc, List.getElem?_append_right (by omega), List.getElem?_append_left (by
            have := (List.getElem?_eq_some_iff.1 hk).1; omega)]
          rw [show j + k - v1.length = k by omega]
          exact hk
        rw [loadAt_run, loadVar_run hag (by have := hneed.1; omega) ha hv2]
        refine load_core hR (lb := [b]) (l1 := l1) (l2 := l2) (l3 := l3) hL hrest (look_in hlook) (by simp) g2 ?_ h
        intro g old cs hcs hall hlen
        have hlen2 : cs.length = szT P t := by rw [hlen]; simp; omega
        have hput : putAt (cellsOf e) j cs = (cellsOf e).take j ++ (cs ++ (cellsOf e).drop (j + szT P t)) := by simp [putAt, hlen2]
        have hpl : (putAt (cellsOf e) j cs).length = (cellsOf e).length := by rw [hput]; simp [hlen2]; omega
        have hc1 : allC1 (putAt (cellsOf e) j cs) = true := by
          rw [hput]
          rw [hsp] at h1
          simp only [allC1_append, Bool.and_eq_true] at h1 ⊢
          exact ⟨h1.1, hall h1.2.1, h1.2.2⟩
        have hre := cells_re (e := e) hpl hc1
        refine .obj (x := x) (old _ _ hg) ho hx hb hf (by rw [hre]; exact hc1) ?_
        rw [hre, hput, hc]
        have := (g1.ext (.gOnly hR.own.sub old)).append (hcs.append (g3.ext (.gOnly hR.own.sub old)))
        simpa using this
  · rename_i id m i j
    obtain ⟨r, hr, hA⟩ := outW_okO h'
    obtain ⟨rfl, hB⟩ := hA
    obtain ⟨e, he, h⟩ := outW_getO hB
    have hlook := rowAt_look hr
    obtain ⟨pp, l, q, hL, hb, hrest⟩ := hR.blk.get hlook
    have hneed := h.1
    obtain ⟨sz, els, fr⟩ := r
    simp only at hlook hb hL hneed h he hp
    cases hp with
    | @elp _ _ _ _ y _ hg' ho' hn' hv' hh' =>
      cases hb with
      | nil => simp at he
      | @row _ _ x b cells ty fz l hg ho hx hn hs hb hf hc hl hm hz hh =>
        obtain rfl : x = y := by rw [hg] at hg'; injection hg'
        obtain ⟨b', hb', rfl⟩ := hh' hn
        obtain rfl : b = b' := by rw [hx] at hb'; injection hb'
        obtain ⟨A, B, hflat, hAl, hset⟩ := flat_mid hz he hneed.2
        rw [hflat] at hh
        obtain ⟨v1, v23, l1, l23, hct, rfl, g1, g23⟩ := hh.split
        obtain ⟨v2, v3, l2, l3, rfl, rfl, g2, g3⟩ := g23.split
        have hv1 : v1.length = i * sz + j := by rw [← g1.length, hAl]
        have hv2 : v2.length = szT P t := by rw [← g2.length]; simp; omega
        have ha : At w.heap b (i * x.sz + j) v2 := by rw [← hR.heap, hs]; exact at_take hb hct hv1
        rw [loadAt_run, loadVar_run hag (by have := hneed.1; omega) ha hv2]
        refine load_core hR (lb := [b]) (l1 := l1) (l2 := l2) (l3 := l3) hL hrest (look_in hlook) (by simp) g2 ?_ h
        intro g old cs hcs hall hlen
        obtain ⟨hfs, hok⟩ := hset cs (by rw [hlen]; simp; omega) hall
        refine .row (x := x) (old _ _ hg) ho hx (by simpa using hn) hs hb hf hc (by simpa using hl) (by simpa using hm) (okE_set hz hok) ?_
        rw [hfs, List.length_set, hct]
        exact (g1.ext (.gOnly hR.own.sub old)).append (hcs.append (g3.ext (.gOnly hR.own.sub old)))
      | @frz _ _ x b cells ty fz hg ho hx hn hs hb hst hl hm hz hh =>
        obtain rfl : x = y := by rw [hg] at hg'; injection hg'
        obtain ⟨b', hb', rfl⟩ := hh' hn
        obtain rfl : b = b' := by rw [hx] at hb'; injection hb'
        obtain ⟨A, B, hflat, hAl, hset⟩ := flat_mid hz he hneed.2
        rw [hflat] at hh
        obtain ⟨v1, v23, l1, l23, hct, hl0, g1, g23⟩ := hh.split
        obtain ⟨v2, v3, l2, l3, rfl, rfl, g2, g3⟩ := g23.split
        obtain ⟨rfl, rfl, rfl⟩ : l1 = [] ∧ l2 = [] ∧ l3 = [] := by simpa using hl0.symm
        have hv1 : v1.length = i * sz + j := by rw [← g1.length, hAl]
        have hv2 : v2.length = szT P t := by rw [← g2.length]; simp; omega
        have ha : At w.heap b (i * x.sz + j) v2 := by rw [← hR.heap, hs]; exact at_take hb hct hv1
        rw [loadAt_run, loadVar_run hag (by have := hneed.1; omega) ha hv2]
        refine load_core hR (lb := []) (l1 := []) (l2 := []) (l3 := []) hL hrest (look_in hlook) (by simp) g2 ?_ h
        intro g old cs hcs hall hlen
        obtain ⟨hfs, hok⟩ := hset cs (by rw [hlen]; simp; omega) hall
        refine .frz (x := x) (old _ _ hg) ho hx (by simpa using hn) hs hb hst (by simpa using hl) (by simpa using hm) (okE_set hz hok) ?_
        rw [hfs, List.length_set, hct]
        exact (g1.ext (.gOnly hR.own.sub old)).append (hcs.append (g3.ext (.gOnly hR.own.sub old)))
  · exact h'.elim
end Go.Ev
