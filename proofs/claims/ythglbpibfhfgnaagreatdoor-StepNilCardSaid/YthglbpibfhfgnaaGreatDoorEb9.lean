/-
The closed evaluator: conversions, maps.
-/
import Derived.Test.YthglbpibfhfgnaaGreatDoorEb8
import Derived.Test.YthglbpibfhfgnaaGreatDoorEvMap2
set_option linter.unusedVariables false
set_option linter.unusedSimpArgs false
namespace Go.Eb
open Go.Ev (szT byT aggO offT fszT TK kindT elemK zok LK leavesT openB kind_slice kind_array kind_str kind_int run_sizeOf szT_info addr_add At zok_is lkT kind_key)
variable {A : Type} {P : Program} {w0 : World} {g : Env} {F : Fr} {M : Mm} {n m : Nat} {a : Act} {w : World} {K : V → Mm → Nat → Option A} {r : A}

theorem bytesK_some : ∀ {vs : List V} {K : List Nat → Option A} {cvs : List Value}, bytesK vs K = some r → RepL g vs cvs → ∃ l : List UInt8, K (l.map (·.toNat)) = some r ∧ cvs = l.map fun b => Value.int .u8 (b.toNat : Int)
  | [], K, cvs, h, hr => by cases hr; exact ⟨[], h, rfl⟩
  | v :: vs, K, cvs, h, hr => by
    obtain ⟨cv, cvs, rfl, h1, h2⟩ := hr.inv
    have h : ob (byteOf v) (fun c => bb (Nat.ble c 255) (bytesK vs fun l => K (c :: l))) = some r := h
    replace h := ob_some h; obtain ⟨c, hc, h⟩ := h
    replace h := bb_some h; obtain ⟨hb, h⟩ := h
    have hb := Nat.le_of_ble_eq_true hb
    obtain ⟨l, hl, rfl⟩ := bytesK_some h h2
    unfold byteOf at hc
    split at hc
    · rename_i c'
      injection hc with hc; subst hc
      cases h1
      refine ⟨UInt8.ofNat c' :: l, ?_, ?_⟩
      · have : (UInt8.ofNat c').toNat = c' := by rw [UInt8.toNat_ofNat']; omega
        simp only [List.map_cons, this]; exact hl
      · have : (UInt8.ofNat c').toNat = c' := by rw [UInt8.toNat_ofNat']; omega
        simp [this]
    · cases hc

theorem convB_did (hM : RM w0 g M n w) {src dst : TypeId} {x : V} {cx : Value} (hx : Rep g x cx) (h : convB P M n src dst x K = some r) : DidS w0 g M n w K r ((convert src dst cx).run P w) ∨ ((∃ e, kindT P dst = .slice e) ∧ Did w0 g M w K r ((convert src dst cx).run P w)) := by
  unfold convB at h
  split at h
  · rename_i k' k k'' q h1 h2
    cases hx
    rw [kI_eq] at h
    refine .inl ?_
    exact (show (convert src dst (.int k'' q)).run P w = .ok (.int k (k.wrap q)) w by simp [convert, run_underlying (kind_int h1), run_underlying (kind_int h2), Conv.intToInt]) ▸ did_ok hM h (.int _ _)
  · rename_i l h1 h2
    cases hx with | str e hs =>
      rename_i s
      refine .inl ?_
      exact (show (convert src dst (.string s)).run P w = .ok (.string s) w by simp [convert, run_underlying (kind_str h1), run_underlying (kind_str h2)]) ▸ did_ok hM h (.str e hs)
  · rename_i e l h1 h2
    cases hx with | str el hs =>
      rename_i s
      subst el
      split at h
      · rename_i h3
        replace h := newCells_some h; obtain ⟨c, hc, h⟩ := h
        rw [run_bytes_of_string w src dst e s (kind_str h1) (kind_slice h2) (kind_int h3)]
        have hcap := grownCap_ge w s.size 0 e
        have hl : ((natsOf s).map fun c => V.int .u8 (.ofNat c)).length = s.size := by rw [List.length_map, natsOf_length]
        have hsz : (bytesRow s (grownCap w s.size 0 e)).size = grownCap w s.size 0 e := by
          unfold bytesRow
          rw [Array.size_append, Array.size_map, Array.size_replicate]
          show s.size + _ = _
          omega
        have hx := hM.alloc (w1 := w.drew) (.cells (bytesRow s (grownCap w s.size 0 e)) e ((bytesRow s (grownCap w s.size 0 e)).size, (bytesRow s (grownCap w s.size 0 e)).size + 1)) rfl rfl rfl rfl (x := ⟨w.heap.size, 0, grownCap w s.size 0 e⟩)
          (b := .cells ((natsOf s).map fun c => V.int .u8 (.ofNat c)).length false c) rfl ⟨bytesRow s (grownCap w s.size 0 e), e, ((bytesRow s (grownCap w s.size 0 e)).size, (bytesRow s (grownCap w s.size 0 e)).size + 1), by simp, hsz, fun k hk hk' => Nat.not_lt.2 hk'.1 hk, by show 0 + _ ≤ grownCap w s.size 0 e; omega, by simp, fun j u hj => by
            have hj := hc j u hj
            have hjl := (List.getElem?_eq_some_iff.1 hj).1
            rw [List.getElem?_map] at hj
            obtain ⟨c', hc', rfl⟩ := Option.map_eq_some_iff.1 hj
            refine ⟨hjl, rfl, .int .u8 (Int.ofNat c'), ?_, .int _ _⟩
            obtain ⟨g1, g2, g3⟩ := natsOf_get hc'
            rw [Nat.zero_add]
            unfold bytesRow
            rw [Array.getElem?_append_left (by rw [Array.size_map]; exact g1), Array.getElem?_map]
            have : s.data[j]? = some (s.data.toList.getD j 0) := by
              rw [← Array.getElem?_toList, List.getD_eq_getElem?_getD]
              cases hd : s.data.toList[j]? with
              | some b => rfl
              | none => rw [List.getElem?_eq_none_iff, size_list] at hd; omega
            rw [this, Option.map_some, g3]
            rfl⟩
        refine .inr ⟨⟨e, h2⟩, _, _, _, _, _, _, h, rfl, ?_, hx.1, hx.2⟩
        rw [natsOf_length]
        exact .sl (x := ⟨w.heap.size, 0, grownCap w s.size 0 e⟩) updG_new (by omega) hcap (fun _ => rfl) (by show 0 + 0 + grownCap w s.size 0 e * 1 = grownCap w s.size 0 e; omega)
      · cases h
  · rename_i e h1 h2
    cases hx
    split at h
    · rename_i h3
      have : (convert src dst (.slice none 0 0)).run P w = .ok (.string .empty) w := by
        rw [run_convert_bytes_string w src dst e none 0 0 (kind_slice h1) (kind_int h3) (kind_str h2)]
        simp [Conv.bytesToString]
      rw [this]
      exact .inl (did_ok hM h (.str rfl (by simp)))
    · cases h
  · rename_i e id off z len lim h1 h2
    split at h
    · rename_i h3
      replace h := bb_some h; obtain ⟨hz, h⟩ := h
      rw [Nat.beq_eq] at hz
      subst hz
      replace h := cellsAt_some h; obtain ⟨k, ex, c, hid, h⟩ := h
      replace h := bb_some h; obtain ⟨hb, h⟩ := h
      have hb := Nat.le_of_ble_eq_true hb
      replace h := readK_some h; obtain ⟨vs, hl, hgs, h⟩ := h
      cases hx with | @sl _ _ _ _ cap _ x p hg he hle hp hc =>
        obtain ⟨y, hy, hbr⟩ := hM.rep id _ hid
        obtain rfl : x = y := by rw [hg] at hy; injection hy
        obtain ⟨cvs, g1, g2, g3, g4, g5⟩ := read_rep hbr hl hgs
        obtain ⟨l, hK, rfl⟩ := bytesK_some h g1
        rw [List.length_map] at g3
        have hrun : (convert src dst (.slice (some p) len cap)).run P w = .ok (.string ⟨l.toArray⟩) w := by
          rw [← g3]
          refine run_convert_bytes_back w src dst e p cap l (kind_slice h1) (kind_int h3) (kind_str h2) fun j hj => ?_
          have hp := hp (by omega)
          subst hp
          rw [addr_add, Ev.cell_at]
          exact g4 j _ (by simp [hj])
        rw [hrun]
        exact .inl <| did_ok hM hK (.str (by simp [natsOf]) (by show l.toArray.size ≤ _; simp; omega))
    · cases h
  · cases h

/-! ### Maps -/
theorem eqK_ev {E : Ev.Env} {lk : LK} {x y : V} {cx cy : Value} {c : Bool} (h : eqK lk x y = some c) (hx : Rep g x cx) (hy : Rep g y cy) : Ev.eqK lk (toAV cx) (toAV cy) = some c ∧ Ev.Rep E (toAV cx) cx [] ∧ Ev.Rep E (toAV cy) cy [] := by
  have h1 : eqLK [lk] [x] [y] true (fun c => some c) = some c := by
    show ob (eqK lk x y) (fun c => match c with | true => some true | false => some false) = some c
    rw [h]
    cases c <;> rfl
  obtain ⟨d, h2, h3, h4, h5⟩ := eqLK_run (E := E) h1 (.cons hx .nil) (.cons hy .nil)
  simp only [Bool.true_and, Option.some.injEq] at h3
  subst h3
  simp only [List.map_cons, List.map_nil, Ev.eqLK, Option.bind_eq_some_iff, Option.map_eq_some_iff, Option.some.injEq] at h2
  obtain ⟨b, hb, b', rfl, rfl⟩ := h2
  obtain ⟨v, rfl', hv⟩ := h4.inv1
  obtain ⟨u, rfl'', hu⟩ := h5.inv1
  simp only [List.cons.injEq, and_true] at rfl' rfl''
  subst rfl' rfl''
  exact ⟨by simpa using hb, hv, hu⟩
theorem eqK_now {lk : LK} {x y : V} {cx cy : Value} {c : Bool} (h : eqK lk x y = some c) (hx : Rep g x cx) (hy : Rep g y cy) : Instr.sameNow (lkT lk) cx cy = some c ∧ (c = true → Instr.sameBits 10000 cy cx = true) := by
  obtain ⟨h1, h2, h3⟩ := eqK_ev (E := ⟨#[], fun _ _ => False, fun _ => none⟩) h hx hy
  exact Ev.eqK_now h2 h3 h1

theorem findK_now {lk : LK} {k : V} {ck : Value} (hk : Rep g k ck) : ∀ {es : List (V × V × Nat)} {ces : List MapEntry} {K : Option V → Option A} {i : Nat}, EntL g es ces → findK lk k es K = some r →
    (K none = some r ∧ Instr.findNow (lkT lk) ck ces i = some none) ∨ ∃ v j cv, K (some v) = some r ∧ Instr.findNow (lkT lk) ck ces i = some (some (j, cv)) ∧ Rep g v cv
  | [], ces, K, i, he, h => by cases he; exact .inl ⟨h, rfl⟩
  | e :: es, ces, K, i, he, h => by
    cases he with | @cons k' v' born ce _ ces h1 h2 h3 h4 =>
      have h : ob (eqK lk k k') (fun c => match c with
        | true => K (some v')
        | false => findK lk k es K) = some r := h
      replace h := ob_some h; obtain ⟨c, hc, h⟩ := h
      obtain ⟨hn, _⟩ := eqK_now hc hk h1
      cases c with
      | true => exact .inr ⟨v', i, ce.val, h, by simp [Instr.findNow, hn], h2⟩
      | false =>
        have := findK_now hk (i := i + 1) h4 h
        simpa [Instr.findNow, hn] using this

theorem mapT_some {t : TypeId} {q : LK × TypeId} (h : mapT P t = some q) : ∃ k, P.underlying t = some (.map k q.2) ∧ P.underlying k = some (lkT q.1) := by
  unfold mapT at h
  split at h
  · rename_i k e hk
    split at h
    · rename_i lk hlk
      injection h with h; subst h
      exact ⟨k, kind_map hk, kind_key hlk⟩
    · cases h
  · cases h

theorem lookupB_did (hM : RM w0 g M n w) {t : TypeId} {ok : Bool} {mv k : V} {cm ck : Value} (hm : Rep g mv cm) (hk : Rep g k ck) (h : lookupB P M n t mv k ok K = some r) : DidS w0 g M n w K r ((Instr.lookup t cm ck ok).run P w) := by
  unfold lookupB at h
  replace h := ob_some h; obtain ⟨q, hq, h⟩ := h
  replace h := ob_some h; obtain ⟨zv, hzv, h⟩ := h
  obtain ⟨kt, hu, hku⟩ := mapT_some hq
  obtain ⟨iz, z, hiz, hz, hrz⟩ := zeroV_rep (P := P) (g := g) hzv
  have hzr : (zeroValue q.2).run P w = .ok z w := by simp [zeroValue, typeInfo, hiz, hz]
  have out : ∀ {v : Option V} {u : V} {cu : Value}, lookOut ok zv v M n K = some r → v.getD zv = u → Rep g u cu → (Instr.lookup t cm ck ok).run P w = .ok (if ok = true then .tuple #[cu, .bool v.isSome] else cu) w → DidS w0 g M n w K r ((Instr.lookup t cm ck ok).run P w) := by
    intro v u cu h hv hr hrun
    rw [hrun]
    unfold lookOut at h
    split at h <;> (subst hv)
    · exact did_ok hM h (.tup (.cons hr (.cons (.bool _) .nil)))
    · exact did_ok hM h (.tup (.cons hr (.cons (.bool _) .nil)))
    · exact did_ok hM h hr
    · exact did_ok hM h hr
  split at h
  · cases hm
    refine out h rfl hrz ?_
    unfold Instr.lookup
    simp only [Sem.run_bind, run_underlying hu, Result.andThen_ok, Sem.run_pure, Ev.run_check hku, Ev.run_find (es := []) hku (r := none) rfl]
    cases ok <;> simp [hzr, Sem.run_bind]
  · replace h := mapAt_some h; obtain ⟨es, c, hid, h⟩ := h
    cases hm with | @mp _ x hg =>
      obtain ⟨y, hy, ces, h1, h2⟩ := hM.rep _ _ hid
      obtain rfl : x = y := by rw [hg] at hy; injection hy
      rcases findK_now hk (i := 0) h2 h with ⟨h, hn⟩ | ⟨v, j, cv, h, hn, hr⟩
      · refine out h rfl hrz ?_
        unfold Instr.lookup
        simp only [Sem.run_bind, run_underlying hu, Result.andThen_ok, MapKept.run_getObj_map h1, Sem.run_pure, Ev.run_check hku, Ev.run_find hku hn]
        cases ok <;> simp [hzr, Sem.run_bind]
      · refine out h rfl hr ?_
        unfold Instr.lookup
        simp only [Sem.run_bind, run_underlying hu, Result.andThen_ok, MapKept.run_getObj_map h1, Sem.run_pure, Ev.run_check hku, Ev.run_find hku hn]
        cases ok <;> simp [Sem.run_bind]
  · cases h

theorem putE_now {lk : LK} {k v : V} {ck cv : Value} (hk : Rep g k ck) (hv : Rep g v cv) {clock : Nat} : ∀ {es : List (V × V × Nat)} {ces : List MapEntry} {K : List (V × V × Nat) → Nat → Option A} {i : Nat}, EntL g es ces → putE lk k v clock es K = some r →
    (∃ es', K es' (clock + 1) = some r ∧ Instr.findNow (lkT lk) ck ces i = some none ∧ EntL g es' (ces ++ [{ key := ck, val := cv, born := clock }])) ∨
    (∃ es' j u, K es' clock = some r ∧ Instr.findNow (lkT lk) ck ces i = some (some (i + j, u)) ∧ (∃ e, ces[j]? = some e ∧ Instr.sameBits 10000 e.key ck = true) ∧ EntL g es' (ces.modify j fun e => { e with key := ck, val := cv }))
  | [], ces, K, i, he, h => by
    cases he
    exact .inl ⟨_, h, rfl, .cons hk hv rfl .nil⟩
  | e :: es, ces, K, i, he, h => by
    cases he with | @cons k' v' born ce _ ces h1 h2 h3 h4 =>
      have h : ob (eqK lk k k') (fun c => match c with
        | true => K ((k, v, born) :: es) clock
        | false => putE lk k v clock es fun es' c => K ((k', v', born) :: es') c) = some r := h
      replace h := ob_some h; obtain ⟨c, hc, h⟩ := h
      obtain ⟨hn, hsame⟩ := eqK_now hc hk h1
      cases c with
      | true => exact .inr ⟨_, 0, ce.val, h, by simp [Instr.findNow, hn], ⟨ce, rfl, hsame rfl⟩, .cons hk hv h3 h4⟩
      | false =>
        rcases putE_now hk hv (i := i + 1) h4 h with ⟨es', g1, g2, g3⟩ | ⟨es', j, u, g1, g2, g3, g4⟩
        · exact .inl ⟨_, g1, by simpa [Instr.findNow, hn] using g2, .cons h1 h2 h3 g3⟩
        · exact .inr ⟨_, j + 1, u, g1, by simp [Instr.findNow, hn, g2]; omega, by simpa using g3, .cons h1 h2 h3 g4⟩

/-- A map's block written. -/
theorem map_write (hM : RM w0 g M n w) {id : Nat} {es es' : List (V × V × Nat)} {c clock : Nat} {x : Lc} {ces : Array MapEntry} (hid : M.get id = some (.map es c)) (hg : g id = some x) (hr : EntL g es' ces.toList) :
    RM w0 g (M.set id (some (.map es' clock))) n { w with heap := w.heap.setIfInBounds x.blk (.map ces clock) } ∧ Mv g M w g (M.set id (some (.map es' clock))) { w with heap := w.heap.setIfInBounds x.blk (.map ces clock) } := by
  have hlt := (hM.lt id x hg).2.2
  refine hM.write (w' := { w with heap := w.heap.setIfInBounds x.blk (.map ces clock) }) (b' := .map es' clock) hid hg (fun k hk => ?_) (by simp) ⟨ces, ?_, hr⟩ rfl rfl rfl
  · show (w.heap.setIfInBounds x.blk _)[k]? = _
    rw [Array.getElem?_setIfInBounds, if_neg (fun e => hk e.symm)]
  · show (w.heap.setIfInBounds x.blk _)[x.blk]? = _
    rw [Array.getElem?_setIfInBounds, if_pos rfl, if_pos hlt]

theorem mapUpdateB_did (hM : RM w0 g M n w) {t : TypeId} {mv k v : V} {cm ck cv : Value} (hm : Rep g mv cm) (hk : Rep g k ck) (hv : Rep g v cv) (h : mapUpdateB P M n t mv k v K = some r) :
    ∃ M' n' w', K (.tup []) M' n' = some r ∧ (Instr.mapUpdate t cm ck cv).run P w = .ok () w' ∧ RM w0 g M' n' w' ∧ Mv g M w g M' w' := by
  unfold mapUpdateB at h
  split at h
  · replace h := ob_some h; obtain ⟨q, hq, h⟩ := h
    replace h := mapAt_some h; obtain ⟨es, c, hid, h⟩ := h
    obtain ⟨kt, hu, hku⟩ := mapT_some hq
    cases hm with | @mp _ x hg =>
      obtain ⟨y, hy, ces, h1, h2⟩ := hM.rep _ _ hid
      obtain rfl : x = y := by rw [hg] at hy; injection hy
      rcases putE_now hk hv (i := 0) h2 h with ⟨es', h, hn, h3⟩ | ⟨es', j, u, h, hn, ⟨e, he, hsb⟩, h3⟩
      · rw [T.setK_set] at h
        obtain ⟨g1, g2⟩ := map_write (clock := c + 1) (ces := ces.push { key := ck, val := cv, born := c }) hM hid hg (by simpa using h3)
        refine ⟨_, n, _, h, ?_, g1, g2⟩
        unfold Instr.mapUpdate
        simp only [Sem.run_bind, run_underlying hu, Result.andThen_ok, MapKept.run_getObj_map h1, Ev.run_check hku, Ev.run_find hku hn, MapKept.run_setObj_map _ h1]
      · rw [T.setK_set] at h
        rw [Nat.zero_add] at hn
        have hea : ces[j]? = some e := by rw [← Array.getElem?_toList]; exact he
        obtain ⟨g1, g2⟩ := map_write (clock := c) (ces := ces.modify j fun e => { e with key := ck, val := cv }) hM hid hg (by simpa using h3)
        refine ⟨_, n, _, h, ?_, g1, g2⟩
        unfold Instr.mapUpdate
        simp only [Sem.run_bind, run_underlying hu, Result.andThen_ok, MapKept.run_getObj_map h1, Ev.run_check hku, Ev.run_find hku hn, Instr.keyThatStays, hea, Option.map_some, Option.getD_some, hsb, if_true, Sem.run_pure, MapKept.run_setObj_map _ h1]
  · cases h

theorem delE_now {lk : LK} {k : V} {ck : Value} (hk : Rep g k ck) : ∀ {es : List (V × V × Nat)} {ces : List MapEntry} {K : List (V × V × Nat) → Option A} {i : Nat}, EntL g es ces → delE lk k es K = some r →
    (∃ es', K es' = some r ∧ Instr.findNow (lkT lk) ck ces i = some none ∧ EntL g es' ces) ∨ (∃ es' j u, K es' = some r ∧ Instr.findNow (lkT lk) ck ces i = some (some (i + j, u)) ∧ EntL g es' (ces.eraseIdx j))
  | [], ces, K, i, he, h => by cases he; exact .inl ⟨_, h, rfl, .nil⟩
  | e :: es, ces, K, i, he, h => by
    cases he with | @cons k' v' born ce _ ces h1 h2 h3 h4 =>
      have h : ob (eqK lk k k') (fun c => match c with
        | true => K es
        | false => delE lk k es fun es' => K ((k', v', born) :: es')) = some r := h
      replace h := ob_some h; obtain ⟨c, hc, h⟩ := h
      obtain ⟨hn, _⟩ := eqK_now hc hk h1
      cases c with
      | true => exact .inr ⟨_, 0, ce.val, h, by simp [Instr.findNow, hn], h4⟩
      | false =>
        rcases delE_now hk (i := i + 1) h4 h with ⟨es', g1, g2, g3⟩ | ⟨es', j, u, g1, g2, g3⟩
        · exact .inl ⟨_, g1, by simpa [Instr.findNow, hn] using g2, .cons h1 h2 h3 g3⟩
        · exact .inr ⟨_, j + 1, u, g1, by simp [Instr.findNow, hn, g2]; omega, .cons h1 h2 h3 g3⟩

theorem deleteB_did (hM : RM w0 g M n w) {t u ty : TypeId} {mv k : V} {cm ck : Value} (hm : Rep g mv cm) (hk : Rep g k ck) (h : deleteB P M n t mv k K = some r) : Did w0 g M w K r ((Builtin.delete_ #[t, u] ty #[cm, ck]).run P w) := by
  unfold deleteB at h
  split at h
  · replace h := ob_some h; obtain ⟨q, hq, h⟩ := h
    obtain ⟨kt, hu, hku⟩ := mapT_some hq
    cases hm
    exact (show (Builtin.delete_ #[t, u] ty #[.map none, ck]).run P w = .ok (.tuple #[]) w by simp [Builtin.delete_, run_underlying hu, Ev.run_check hku]) ▸ (did_ok hM h (.tup .nil)).did
  · replace h := ob_some h; obtain ⟨q, hq, h⟩ := h
    replace h := mapAt_some h; obtain ⟨es, c, hid, h⟩ := h
    obtain ⟨kt, hu, hku⟩ := mapT_some hq
    cases hm with | @mp _ x hg =>
      obtain ⟨y, hy, ces, h1, h2⟩ := hM.rep _ _ hid
      obtain rfl : x = y := by rw [hg] at hy; injection hy
      rcases delE_now hk (i := 0) h2 h with ⟨es', h, hn, h3⟩ | ⟨es', j, v, h, hn, h3⟩
      · rw [T.setK_set] at h
        obtain ⟨g1, g2⟩ := map_write (clock := c) (ces := ces) hM hid hg h3
        refine ⟨_, _, n, g, _, _, h, ?_, .tup .nil, g1, g2⟩
        simp only [Builtin.delete_, Sem.run_bind, run_underlying hu, Result.andThen_ok, List.getElem?_toArray, List.getElem?_cons_zero, List.getElem?_cons_succ, MapKept.run_getObj_map h1, Ev.run_check hku, Ev.run_find hku hn, MapKept.run_setObj_map _ h1, Sem.run_pure]
      · rw [T.setK_set] at h
        rw [Nat.zero_add] at hn
        obtain ⟨g1, g2⟩ := map_write (clock := c) (ces := ces.eraseIdxIfInBounds j) hM hid hg (by
          rw [Array.toList_eraseIdxIfInBounds]; exact h3)
        refine ⟨_, _, n, g, _, _, h, ?_, .tup .nil, g1, g2⟩
        simp only [Builtin.delete_, Sem.run_bind, run_underlying hu, Result.andThen_ok, List.getElem?_toArray, List.getElem?_cons_zero, List.getElem?_cons_succ, MapKept.run_getObj_map h1, Ev.run_check hku, Ev.run_find hku hn, MapKept.run_setObj_map _ h1, Sem.run_pure]
  · cases h

theorem makeMap_did (hM : RM w0 g M n w) {s : Sem Value} (hs : s.run P w = .ok (.map (some w.heap.size)) (w.alloc (.map #[] 0))) (h : newB M n (.map [] 0) (fun M' n' => K (.mp n) M' n') = some r) : Did w0 g M w K r (s.run P w) := by
  rw [newB_eq] at h
  obtain ⟨g1, g2⟩ := hM.alloc (w1 := w) (.map #[] 0) rfl rfl rfl rfl (x := ⟨w.heap.size, 0, 0⟩) (b := .map [] 0) rfl ⟨#[], by simp, .nil⟩
  exact ⟨_, _, _, _, _, _, h, hs, .mp (x := ⟨w.heap.size, 0, 0⟩) updG_new, g1, g2⟩
end Go.Eb
