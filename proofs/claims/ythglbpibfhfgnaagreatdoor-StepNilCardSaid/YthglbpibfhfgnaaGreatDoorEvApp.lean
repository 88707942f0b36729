/-
append.
-/
import Derived.Test.YthglbpibfhfgnaaGreatDoorEvMem2
import Derived.ArgAppend
import Derived.Laws.AppendOwn
set_option linter.unusedVariables false
set_option linter.unusedSimpArgs false
namespace Go.Ev
variable {Sp : FuncId → List AV → AV → List AV → Prop} {P : Program} {E : Env} {s : S} {a : Act} {w : World} {L : List Nat} {K : S → AV → Prop}

theorem noO_both : (∀ {v : AV} {cv : Value} {l : List Nat}, Rep E v cv l → NoO v → l = []) := by
  intro v cv l h
  refine @Rep.rec E (fun a v l _ => NoO a → l = []) (fun as vs l _ => NoOL as → l = [])
    (fun _ _ => rfl) (fun _ _ _ => rfl) (fun _ _ _ => rfl) (fun _ => rfl) (fun _ => rfl) (fun _ => rfl) (fun _ => rfl) (fun _ _ => rfl)
    ?_ ?_ ?_ ?_ ?_ ?_ ?_ (fun fl sz a cap _ => rfl) ?_ (fun sz _ => rfl) ?_ ?_ ?_ ?_ ?_ (fun _ => rfl) ?_ v cv l h
  · intros; rfl
  · intros; rfl
  · intros; rfl
  · intros; rfl
  · intros; rfl
  · intros; rfl
  · intro e j b cells ty fr l h1 h2 hc _ ih hb; simp only [NoO] at hb
  · intros; rfl
  · intro sz els b cap cells ty fr l h1 h2 h3 h4 h5 h6 _ ih hb; simp only [NoO] at hb
  · intro cs vs l _ ih hb; simp only [NoO] at hb; exact ih hb
  · intro cs vs l _ ih hb; simp only [NoO] at hb; exact ih hb
  · intro f cs vs l _ ih hb; simp only [NoO] at hb; exact ih hb
  · intro ks vs es clock b hb _ _ _ _ hbd; simp only [NoO] at hbd
  · intro a v as vs l m _ _ ih1 ih2 hb; simp only [NoOL] at hb; rw [ih1 hb.1, ih2 hb.2]; rfl
theorem noOL : ∀ {vs : List AV} {cv : List Value} {l : List Nat}, RepL E vs cv l → NoOL vs → l = []
  | _, _, _, .nil, _ => rfl
  | _, _, _, .cons h t, hn => by simp only [NoOL] at hn; rw [noO_both h hn.1, noOL t hn.2]; rfl
theorem noOL_iff : ∀ {cs : List AV}, NoOL cs ↔ ∀ v ∈ cs, NoO v
  | [] => by simp [NoOL]
  | c :: cs => by simp [NoOL, noOL_iff]
theorem noOL_cells {e : AV} (h : NoO e) : NoOL (cellsOf e) := by
  cases e <;> simp only [cellsOf, NoOL, and_true] <;> first | exact h | (simp only [NoO] at h; exact h)
theorem noOL_flat {els : List AV} (h : NoOL els) : NoOL (flat els) := by
  rw [noOL_iff] at *
  intro v hv
  obtain ⟨e, he, hv⟩ := List.mem_flatMap.1 hv
  exact noOL_iff.1 (noOL_cells (h e he)) v hv

/-- What is appended: where it lies. -/
structure Src (E : Env) (w : World) (cy : Value) (sz : Nat) (els : List AV) : Prop where
  z : ∀ e ∈ els, okE sz e
  is : ∃ ao cap, cy = .slice ao els.length cap ∧ (els ≠ [] → ∃ ad vs, ao = some ad ∧ (∀ j v, vs[j]? = some v → w.cell? (ad.add j) = some v) ∧ RepL E (flat els) vs [])

theorem cellsL_one : ∀ {cs : List AV} {vs : List Value} {l : List Nat}, RepL E cs vs l → allC1 cs = true → ∀ u ∈ vs, u.oneCell' = true
  | _, _, _, .nil, _, _, hu => by cases hu
  | _, _, _, .cons h t, h1, u, hu => by
    simp only [allC1, Bool.and_eq_true] at h1
    rcases List.mem_cons.1 hu with rfl | hu
    · exact h.one h1.1
    · exact cellsL_one t h1.2 u hu

theorem allC1_flat {els : List AV} {sz : Nat} (h : ∀ e ∈ els, okE sz e) : allC1 (flat els) = true := allC1_of fun c hc => by
  obtain ⟨e, he, hc⟩ := List.mem_flatMap.1 hc
  exact allC1_mem (h e he).2 c hc

theorem els_src (hR : R E s a w L) {y : AV} {cy : Value} (hy : Rep E y cy []) {f : Nat → List AV → Out} (h : outW Sp (elsO s.b y f) K) : ∃ sz els, outW Sp (f sz els) K ∧ Src E w cy sz els := by
  have rowcase : ∀ {id n off len : Nat} {r : Nat × List AV × Bool}, look id s.b = some (.row r.1 r.2.1 r.2.2) → n = r.2.1.length → off + len ≤ n → NoOL ((r.2.1.drop off).take len) →
      (∃ x c, E.g id = some x ∧ (x.n = n → ∃ ao, cy = .slice ao len c ∧ (0 < len → x.blk = none ∨ ao = x.blk.map fun b => ⟨b, off * x.sz, none⟩))) → Src E w cy r.1 ((r.2.1.drop off).take len) := by
    intro id n off len r hl hn hle hno ⟨x, c, hg, hh⟩
    obtain ⟨y', hy'⟩ := hR.row hl
    obtain rfl : x = y' := by have := hy'.g; rw [hg] at this; injection this
    obtain ⟨ao, rfl, hat⟩ := hh (by rw [hy'.n, hn])
    have hlen : ((r.2.1.drop off).take len).length = len := by simp; omega
    refine ⟨fun e he => hy'.z e (List.mem_of_mem_drop (List.mem_of_mem_take he)), ao, c, by rw [hlen], fun hne => ?_⟩
    have hpos : 0 < len := by
      rcases Nat.eq_zero_or_pos len with h | h
      · subst h; simp at hne
      · exact h
    rcases hy'.mem with ⟨he, _⟩ | ⟨b, cells, ty, fz, m, hb, hbw, hsz, hrep, _⟩
    · rw [he] at hne; simp at hne
    · have hao : ao = some ⟨b, off * x.sz, none⟩ := by
        rcases hat hpos with h | h
        · rw [hb] at h; cases h
        · rw [h, hb]; rfl
      have hf := flat_drop_take (l := off) (n := len) hy'.z
      have hno2 := noOL_flat hno
      refine ⟨_, ((cells.toList.take (r.2.1.length * r.1)).drop (off * r.1)).take (len * r.1), hao, fun j v hj => ?_, ?_⟩
      · rw [addr_add, cell_at, ← hR.heap, hy'.hsz]
        have h1 : (cells.toList.take (r.2.1.length * r.1))[off * r.1 + j]? = some v := by
          rw [List.getElem?_take] at hj
          split at hj
          · rw [List.getElem?_drop] at hj; exact hj
          · cases hj
        rw [List.getElem?_take] at h1
        split at h1
        · unfold cellAt; rw [hbw]; show cells[_]? = _; rw [← Array.getElem?_toList]; exact h1
        · cases h1
      · rw [hf] at hno2 ⊢
        -- the part's resources are none
        have e1 : flat r.2.1 = (flat r.2.1).take (off * r.1) ++ (((flat r.2.1).drop (off * r.1)).take (len * r.1) ++ (flat r.2.1).drop (off * r.1 + len * r.1)) := by
          rw [← List.drop_drop, List.take_append_drop, List.take_append_drop]
        have hflen := flat_len hy'.z
        rw [e1] at hrep
        obtain ⟨v1, v23, l1, l23, hc, rfl, g1, g23⟩ := hrep.split
        obtain ⟨v2, v3, l2, l3, rfl, rfl, g2, g3⟩ := g23.split
        obtain rfl := noOL g2 hno2
        have hmul : off * r.1 + len * r.1 ≤ r.2.1.length * r.1 := by rw [← Nat.add_mul]; exact Nat.mul_le_mul_right _ (by omega)
        have hv1 : v1.length = off * r.1 := by rw [← g1.length, List.length_take, hflen]; omega
        have hv2 : v2.length = len * r.1 := by rw [← g2.length, List.length_take, List.length_drop, hflen]; omega
        have e2 : ((v1 ++ (v2 ++ v3)).drop (off * r.1)).take (len * r.1) = v2 := by rw [← hv1, List.drop_left, ← hv2, List.take_left]
        rw [hc, e2]
        exact g2
  unfold elsO at h
  split at h
  · rename_i fl sz els
    refine ⟨sz, els, h, ?_⟩
    cases hy with
    | lst0 fl sz ao cap => exact ⟨by simp, ao, cap, rfl, fun h => absurd rfl h⟩
    | @lst _ _ _ b o cap vs hn hc hm hst hz ha hh =>
      refine ⟨hz, _, cap, rfl, fun _ => ⟨_, vs, rfl, fun j v hj => ?_, hh⟩⟩
      rw [addr_add, cell_at, ← hR.heap]
      exact ha j v hj
  · rename_i id n off len
    obtain ⟨r, hr, hA⟩ := outW_okO h
    obtain ⟨⟨hn, hle, hno⟩, hB⟩ := hA
    refine ⟨_, _, hB, rowcase (rowAt_look hr) hn hle hno ?_⟩
    cases hy with
    | @row _ _ _ _ x _ hg ho hn' hv hh =>
      obtain ⟨y, hy'⟩ := hR.row (rowAt_look hr)
      obtain rfl : x = y := by have := hy'.g; rw [hg] at this; injection this
      refine ⟨x, x.cap - off, hg, fun e => ?_⟩
      obtain ⟨ao, hao, hat⟩ := hh e
      exact ⟨ao, hao, fun hp => .inr (hat (.inl (by have := hy'.le; omega)))⟩
  · rename_i id n off len
    obtain ⟨r, hr, hA⟩ := outW_okO h
    obtain ⟨⟨hn, hle, hno⟩, hB⟩ := hA
    refine ⟨_, _, hB, rowcase (rowAt_look hr) hn hle hno ?_⟩
    cases hy with
    | @rowc _ _ _ _ x _ hg ho hn' hv hh =>
      refine ⟨x, len, hg, fun e => ?_⟩
      obtain ⟨ao, hao, hat⟩ := hh e
      exact ⟨ao, hao, fun hp => .inr (hat hp)⟩
  · exact h.elim

theorem zok_is {e : TypeId} (h : zok P e = true) : ∃ i z, P.info? e = some i ∧ i.zero = some z ∧ z.cells.size = i.size ∧ 0 < i.size ∧ i.size = szT P e ∧ i.bytes = byT P e := by
  unfold zok at h
  split at h
  · rename_i i hi
    split at h
    · rename_i z hz
      simp only [Bool.and_eq_true, beq_iff_eq, decide_eq_true_eq] at h
      exact ⟨i, z, hi, hz, h.1, h.2, by simp [szT, hi], by simp [byT, hi]⟩
    · cases h
  · cases h

theorem alloc_move (hR : R E s a w L) (w1 : World) (hw : w1.heap = w.heap) (ho : w1.os = w.os) (ht : w1.tape = w.tape) (hu : w1.output = w.output) (o : Obj) {g : Nat → Option Loc}
    (hg : ∀ id x, E.g id = some x → ∃ x', g id = some x' ∧ (x' = x ∨ x.obj = false ∧ x'.obj = false ∧ x.n < x'.n)) {L' : List Nat} (hn : L'.Nodup) (hs : ∀ b ∈ L', b ∈ L) :
    Move E w L { h := (w1.alloc o).heap, st := E.st, g := g } (w1.alloc o) (w.heap.size :: L') ∧ (∀ l : List Nat, (∀ b ∈ l, b ∈ L) → Ext E { h := (w1.alloc o).heap, st := E.st, g := g } l) ∧
      (w1.alloc o).heap[w.heap.size]? = some o := by
  have hsz : E.h.size = w.heap.size := by rw [hR.heap]
  have hlt : ∀ b ∈ L, b < w.heap.size := fun b hb => by rw [← hsz]; exact hR.own.lt b hb
  have hheap : (w1.alloc o).heap = w.heap.push o := by show w1.heap.push o = _; rw [hw]
  have hext : ∀ l : List Nat, (∀ b ∈ l, b ∈ L) → Ext E { h := (w1.alloc o).heap, st := E.st, g := g } l := fun l hl =>
    ⟨fun b hb => by
      have hb' : b < w.heap.size := by
        rcases hb with hb | hb
        · rw [← hsz]; exact hR.own.stlt _ _ hb
        · exact hlt b (hl b hb)
      show (w1.alloc o).heap[b]? = E.h[b]?
      rw [hheap, hR.heap, Array.getElem?_push_lt hb', Array.getElem?_eq_getElem hb'], fun _ _ h => h, hR.own.sub, hg⟩
  refine ⟨⟨hext [] (by simp), rfl, by rw [hheap]; simp, fun b hb _ => ?_, fun _ _ h => .inl h, fun b hb => ?_, ?_, ho, ht, hu, fun _ h => .inl h⟩, hext, by rw [hheap]; simp⟩
  · rw [hheap, Array.getElem?_push_lt hb, Array.getElem?_eq_getElem hb]
  · rcases List.mem_cons.1 hb with rfl | hb
    · exact .inr (Nat.le_refl _)
    · exact .inl (hs b hb)
  · refine ⟨List.nodup_cons.2 ⟨fun hm => by have := hlt _ (hs _ hm); omega, hn⟩, fun b hb => ?_, fun b hb => ?_, fun fl b hb => ?_, hR.own.sub⟩
    · show b < (w1.alloc o).heap.size
      rw [hheap]
      rcases List.mem_cons.1 hb with rfl | hb
      · simp
      · have := hlt b (hs b hb); simp; omega
    · rcases List.mem_cons.1 hb with rfl | hb
      · intro hst; have := hR.own.stlt _ _ hst; omega
      · exact hR.own.off b (hs b hb)
    · have := hR.own.stlt _ _ hb
      show b < (w1.alloc o).heap.size
      rw [hheap]; simp; omega

def setG (g : Nat → Option Loc) (id : Nat) (x : Loc) : Nat → Option Loc := fun i => if i = id then some x else g i

theorem appK_did (hR : R E s a w L) {t ty e : TypeId} (hk : kindT P t = .slice e) {id : Nat} {cx cy : Value} {r : Nat × List AV} (hown : ownAt s.b id = some r) {xsz : Nat} {xs : List AV} (hsrc : Src E w cy xsz xs) (hzk : zok P e = true)
    (hx : Rep E (.row id r.2.length 0 r.2.length) cx []) (h : outW Sp (appK s id (szT P e) (byT P e) xsz xs r.1 r.2) K) :
    Did E s a w L K ((Builtin.append_ #[t, t] ty #[cx, cy]).run P w) := by
  obtain ⟨⟨hbz, hxz, hby, hmx⟩, hK⟩ := h
  subst hxz
  obtain ⟨bsz, els0⟩ := r
  simp only at *
  subst hbz
  have hu := kind_slice hk
  obtain ⟨i, z, hi, hz, hzs, hipos, hisz, hiby⟩ := zok_is hzk
  obtain ⟨q0, hq0, hq1⟩ := Option.bind_eq_some_iff.1 hown
  have hlook := rowAt_look hq0
  obtain ⟨sz', els, fr⟩ := q0
  cases fr
  case true => simp at hq1
  simp only [Bool.false_eq_true, if_false, Option.some.injEq, Prod.mk.injEq] at hq1
  obtain ⟨rfl, rfl⟩ := hq1
  simp only at hlook
  obtain ⟨pp, l, q, hL, hb, hset⟩ := hR.blk.set hlook hR.keys
  obtain ⟨yo, ycap, rfl, hyv⟩ := hsrc.is
  -- the news
  obtain ⟨ad, news, hyo, hnews, hrn⟩ : ∃ (ad : Addr) (news : List Value), (xs ≠ [] → yo = some ad) ∧ (∀ j u, news[j]? = some u → w.cell? (ad.add j) = some u) ∧ RepL E (flat xs) news [] := by
    by_cases hne : xs = []
    · subst hne; exact ⟨⟨0, 0, none⟩, [], fun h => absurd rfl h, by simp, .nil⟩
    · obtain ⟨ad, vs, h1, h2, h3⟩ := hyv hne; exact ⟨ad, vs, fun _ => h1, h2, h3⟩
  have hnl : news.length = xs.length * i.size := by rw [← hrn.length, flat_len hsrc.z, hisz]
  have hn1 := cellsL_one hrn (allC1_flat hsrc.z)
  have hokall : ∀ {es : List AV}, (∀ e' ∈ es, okE (szT P e) e') → ∀ e' ∈ es ++ xs, okE (szT P e) e' := fun h1 e' he' => (List.mem_append.1 he').elim (h1 e') (hsrc.z e')
  cases hx with
  | @row _ _ _ _ x _ hg ho hn hv hh =>
    obtain ⟨y, hy⟩ := hR.row hlook
    obtain rfl : x = y := by have := hy.g; rw [hg] at this; injection this
    obtain ⟨ao, rfl, hat⟩ := hh hy.n
    have hat := hat (.inr rfl)
    simp only [Nat.sub_zero, Nat.zero_mul] at hat ⊢
    have gext : ∀ (x' : Loc), x'.obj = false → (x' = x ∨ x.n < x'.n) → ∀ k y, E.g k = some y → ∃ y', setG E.g id x' k = some y' ∧ (y' = y ∨ y.obj = false ∧ y'.obj = false ∧ y.n < y'.n) := by
      intro x' ho' hx' k y hk
      by_cases e : k = id
      · subst e
        rw [hg] at hk
        injection hk with hk
        subst hk
        exact ⟨x', by simp [setG], hx'.imp id fun h => ⟨ho, ho', h⟩⟩
      · exact ⟨y, by simp [setG, e, hk], .inl rfl⟩
    have gnok : ∀ (x' : Loc) (k : Nat) (y : Loc), setG E.g id x' k = some y → k < s.n := by
      intro x' k y hk
      by_cases e : k = id
      · subst e; exact hR.gn _ _ hg
      · simp only [setG, if_neg e] at hk; exact hR.gn _ _ hk
    have gother : ∀ (x' : Loc) (k : Nat), k ≠ id → k ∈ s.b.map (·.1) → setG E.g id x' k = E.g k := fun x' k hk _ => by simp [setG, hk]
    have hkeys : ∀ blk, ((setB id blk s.b).map (·.1)).Nodup := fun blk => by rw [keys_setB]; exact hR.keys
    by_cases hroom : els.length + xs.length ≤ x.cap
    · -- in place
      by_cases hxs : xs = []
      · -- nothing is appended
        subst hxs
        have hrun : (Builtin.append_ #[t, t] ty #[.slice ao els.length x.cap, .slice yo ([] : List AV).length ycap]).run P w = .ok (.slice ao els.length x.cap) w := by
          have h1 : els.length + 0 ≤ x.cap := hroom
          have hl0 : ∀ (x : Addr), (loadCells x 0).run P w = .ok #[] w := fun x => by simpa using run_loadCells_list (P := P) w x [] (by simp)
          cases yo <;> cases ao <;> simp [Builtin.append_, run_underlying hu, sizeOf, typeInfo, hi, Builtin.lenOf, Builtin.firstCells, storeCells, h1, hl0, hy.le]
        rw [hrun]
        have he : setB id (.row (szT P e) (els ++ []) false) s.b = s.b := by
          have : ∀ {b : Mem} {blk : Blk}, look id b = some blk → setB id blk b = b := by
            intro b
            induction b with
            | nil => intro _ _; rfl
            | cons p r ih =>
              intro blk hb
              simp only [look] at hb
              simp only [setB]
              split at hb
              · rename_i hk; injection hb with hb; subst hb; obtain ⟨k, u⟩ := p; simp only at hk; subst hk; simp
              · rename_i hk; rw [if_neg hk, ih hb]
          rw [List.append_nil]
          exact this hlook
        rw [he] at hK
        refine did_ok hR (v := .row id els.length 0 els.length) hK (.row hg ho hn ⟨_, _, rfl⟩ fun _ => ⟨ao, rfl, fun _ => by simp [hat]⟩)
      · cases hb with
        | @nil _ _ x' hg' ho' hx' hc' hn' hz0 =>
          obtain rfl : x = x' := by rw [hg] at hg'; injection hg'
          have : 0 < xs.length := List.length_pos_iff.2 hxs
          simp at hroom; omega
        | @row _ _ x' b cells ty' fz l hg' ho' hx' hn' hs' hb' hf hc hl hm hz' hh' =>
          obtain rfl : x = x' := by rw [hg] at hg'; injection hg'
          rw [hx'] at hat
          simp only [Option.map_some] at hat
          subst hat
          rw [hyo hxs]
          have hbw : w.heap[b]? = some (.cells cells ty' fz) := by rw [← hR.heap]; exact hb'
          have hsz : i.size = szT P e := hisz
          have hfit : els.length * i.size + news.length ≤ cells.size := by
            rw [hnl, ← Nat.add_mul, hc, hsz]; exact Nat.mul_le_mul_right _ hroom
          have hrun := run_append_room_cells (P := P) w t ty e i hu hi b 0 els.length x.cap ad xs.length ycap news hnl hnews hn1 hroom
            (fun j hj => by
              rw [cell_at]; unfold cellAt; rw [hbw]
              show (cells[0 + els.length * i.size + j]?).isSome = true
              simp; omega)
            (fun j hj => by
              unfold World.frozen?
              rw [hbw]
              have := hf (0 + els.length * i.size + j) (by omega)
              simp only [Bool.and_eq_false_iff, decide_eq_false_iff_not]
              omega)
          rw [hrun]
          simp only [Nat.zero_add]
          let x2 : Loc := { x with n := els.length + xs.length }
          have hx2 : x.n < x2.n := by show x.n < els.length + xs.length; rw [hn']; have := List.length_pos_iff.2 hxs; omega
          have hbL : b ∈ L := by rw [hL]; simp
          obtain ⟨cells', g1, g2, g3, hmv, hext⟩ := write_move hR hbL hbw hfit (g := setG E.g id x2) (gext x2 ho (.inr hx2)) (L' := L) hR.own.nodup fun c hc => hc
          have hnd := hR.own.nodup
          have hbl : b ∉ l ∧ b ∉ pp ++ q := by
            rw [hL] at hnd
            rw [List.nodup_append] at hnd
            obtain ⟨_, h2, h3⟩ := hnd
            rw [List.cons_append, List.nodup_cons] at h2
            refine ⟨fun hm => h2.1 (by simp [hm]), fun hm => ?_⟩
            rcases List.mem_append.1 hm with hm | hm
            · exact h3 b hm b (by simp) rfl
            · exact h2.1 (by simp [hm])
          have hB := hset _ (.row (szT P e) (els ++ xs) false) (b :: l) (by
            refine .row (x := x2) (by simp [setG]) ho hx' (by simp [x2]) hs' g1 (by rw [g3]; exact hf) (by rw [g3]; exact hc) (by simpa using hroom) (by simpa [MX] using hmx) (hokall hz') ?_
            rw [flat_append, List.length_append, g2]
            have e1 : ((cells.toList.take (els.length * i.size)) ++ (news ++ cells.toList.drop (els.length * i.size + news.length))).take ((els.length + xs.length) * szT P e) = cells.toList.take (els.length * szT P e) ++ news := by
              have hl1 : (cells.toList.take (els.length * i.size)).length = els.length * i.size := by
                rw [List.length_take, Array.length_toList (xs := cells)]; omega
              have : (els.length + xs.length) * szT P e = (cells.toList.take (els.length * i.size) ++ news).length := by
                rw [List.length_append, hl1, hnl, Nat.add_mul, hsz]
              rw [this, ← List.append_assoc, List.take_left, hsz]
            rw [e1]
            have := (hh'.ext (hext l hbl.1)).append (hrn.ext (hext [] (by simp)))
            simpa using this) (hext _ hbl.2) (gother x2)
          rw [← hL] at hB
          refine ⟨_, _, _, _, L, _, hK, hR.step hmv (b := setB id _ s.b) (n := s.n) hB (hkeys _) (gnok x2), hmv, ?_, rfl, fun h => nomatch h⟩
          exact .row (l := x2) (by simp [setG]) ho (by simp [x2]) ⟨_, _, rfl⟩ fun _ => ⟨_, rfl, fun _ => by simp [x2, hx']⟩
    · -- a new block
      have hxs : xs ≠ [] := by
        rintro rfl
        have := hy.le
        simp at hroom; omega
      rw [hyo hxs]
      have hpos : 0 < xs.length := List.length_pos_iff.2 hxs
      have hby' : (els.length + xs.length) * i.bytes ≤ 140737488355328 := by rw [hiby]; exact hby
      let cap2 := grownCap w (els.length + xs.length) x.cap e
      let x2 : Loc := ⟨false, some w.heap.size, cap2, els.length + xs.length, szT P e⟩
      have hx2 : x.n < x2.n := by show x.n < els.length + xs.length; rw [hy.n]; omega
      have hcap2 : els.length + xs.length ≤ cap2 := grownCap_ge w _ _ e
      -- the old cells, and what they own
      obtain ⟨olds, l1, hl1, hrun, hro⟩ : ∃ (olds : List Value) (l1 : List Nat), (∀ c ∈ l1, c ∈ l) ∧
          ((Builtin.append_ #[t, t] ty #[.slice ao els.length x.cap, .slice (some ad) xs.length ycap]).run P w = .ok (.slice (some ⟨w.heap.size, 0, none⟩) (els.length + xs.length) cap2)
            (w.drew.alloc (.cells (olds.toArray ++ news.toArray ++ Builtin.zeroCells z.cells (cap2 - (els.length + xs.length))) e))) ∧ RepL E (flat els) olds l1 ∧ l1.Nodup ∧ ∀ c ∈ l1, c ∉ pp ∧ c ∉ q := by
        have hnd := hR.own.nodup
        rw [hL, List.nodup_append, List.nodup_append] at hnd
        obtain ⟨_, ⟨hnl1, _, hd2⟩, hd1⟩ := hnd
        have hsep : ∀ c ∈ l, c ∉ pp ∧ c ∉ q := fun c hc => ⟨fun hp => hd1 c hp c (by simp [hc]) rfl, fun hq => hd2 c hc c hq rfl⟩
        cases hb with
        | @nil _ _ x' hg' ho' hx' hc' hn' hz0 =>
          obtain rfl : x = x' := by rw [hg] at hg'; injection hg'
          rw [hx'] at hat
          simp only [Option.map_none] at hat
          subst hat
          refine ⟨[], [], by simp, ?_, .nil, List.nodup_nil, by simp⟩
          have hr := run_append_nil (P := P) w t ty e i z hu hi hz ad xs.length ycap news hnl hnews hpos (by omega) (by
            have : xs.length * i.bytes ≤ 140737488355328 := by simpa using hby'
            omega)
          rw [hc']
          simp only [List.length_nil, Nat.zero_add, cap2, hc']
          rw [hr]
          congr 2
          simp
        | @row _ _ x' b cells ty' fz l hg' ho' hx' hn' hs' hb' hf hc hl hm hz' hh' =>
          obtain rfl : x = x' := by rw [hg] at hg'; injection hg'
          rw [hx'] at hat
          simp only [Option.map_some] at hat
          subst hat
          have hbw : w.heap[b]? = some (.cells cells ty' fz) := by rw [← hR.heap]; exact hb'
          refine ⟨cells.toList.take (els.length * szT P e), l, fun c hc => by simp [hc], ?_, hh', (List.nodup_cons.1 hnl1).2, fun c hc => hsep c (by simp [hc])⟩
          have hlo : (cells.toList.take (els.length * szT P e)).length = els.length * i.size := by
            rw [List.length_take, Array.length_toList (xs := cells), hc, hisz]
            exact Nat.min_eq_left (Nat.mul_le_mul_right _ hl)
          have hr := run_append_grow (P := P) w t ty e i z hu hi hz ⟨b, 0, none⟩ els.length x.cap (cells.toList.take (els.length * szT P e)) hlo (fun j v hj => by
              rw [addr_add, cell_at, Nat.zero_add]
              unfold cellAt
              rw [hbw]
              show cells[j]? = some v
              rw [List.getElem?_take] at hj
              split at hj
              · rw [← Array.getElem?_toList]; exact hj
              · cases hj) ad xs.length ycap news hnl hnews (by omega) (by omega) (growslice_fits (by omega) hby')
          exact hr
      obtain ⟨hrep1, hnd1, hsep1⟩ := hro
      rw [hrun]
      have hsubl : ∀ c ∈ l1 ++ (pp ++ q), c ∈ L := fun c hc => by
        rw [hL]
        simp only [List.mem_append] at hc ⊢
        rcases hc with hc | hc | hc
        · exact .inr (.inl (hl1 c hc))
        · exact .inl hc
        · exact .inr (.inr hc)
      have hnd : (pp ++ (l1 ++ q)).Nodup := by
        have h0 := hR.own.nodup
        rw [hL, List.nodup_append, List.nodup_append] at h0
        obtain ⟨hp, ⟨_, hq, _⟩, hpq⟩ := h0
        rw [List.nodup_append, List.nodup_append]
        refine ⟨hp, ⟨hnd1, hq, fun c hc d hd e => (hsep1 c hc).2 (e ▸ hd)⟩, fun c hc d hd e => ?_⟩
        rcases List.mem_append.1 hd with hd | hd
        · exact (hsep1 d hd).1 (e ▸ hc)
        · exact hpq c hc d (by simp [hd]) e
      obtain ⟨hmv, hext, hnew⟩ := alloc_move hR w.drew rfl rfl rfl rfl (.cells (olds.toArray ++ news.toArray ++ Builtin.zeroCells z.cells (cap2 - (els.length + xs.length))) e) (g := setG E.g id x2) (gext x2 rfl (.inr hx2)) (L' := pp ++ (l1 ++ q)) hnd
        (fun c hc => hsubl c (by simp only [List.mem_append] at hc ⊢; rcases hc with hc | hc | hc <;> simp [hc]))
      have hcsz : (olds.toArray ++ news.toArray ++ Builtin.zeroCells z.cells (cap2 - (els.length + xs.length))).size = cap2 * szT P e := by
        have ho' := hrep1.length
        rw [flat_len hy.z] at ho'
        simp only [Array.size_append, List.size_toArray, size_zeroCells, hzs, ← ho', hnl, hisz, ← Nat.add_mul]
        congr 1
        omega
      have hB := hset _ (.row (szT P e) (els ++ xs) false) (w.heap.size :: l1) (by
        refine .row (x := x2) (by simp [setG]) rfl rfl (by simp [x2]) rfl hnew (by intro k _ hk; exact Nat.not_lt_zero _ hk.2) hcsz (by simpa [x2] using hcap2) (by simpa [MX] using hmx) (hokall hy.z) ?_
        rw [flat_append, List.length_append]
        have e1 : ((olds.toArray ++ news.toArray ++ Builtin.zeroCells z.cells (cap2 - (els.length + xs.length))).toList).take ((els.length + xs.length) * szT P e) = olds ++ news := by
          have ho' := hrep1.length
          rw [flat_len hy.z] at ho'
          have : (els.length + xs.length) * szT P e = (olds ++ news).length := by
            rw [List.length_append, ← ho', hnl, Nat.add_mul, hisz]
          rw [this]
          simp only [Array.toList_append]
          rw [List.take_left' (by simp)]
        rw [e1]
        have := (hrep1.ext (hext l1 (fun c hc => hsubl c (by simp [hc])))).append (hrn.ext (hext [] (by simp)))
        simpa using this) (hext _ (fun c hc => hsubl c (by simp only [List.mem_append] at hc ⊢; exact .inr hc))) (gother x2)
      -- the new block's number stands within the list
      have hperm : (pp ++ ((w.heap.size :: l1) ++ q)).Perm (w.heap.size :: (pp ++ (l1 ++ q))) := by
        rw [List.cons_append]; exact List.perm_middle
      have hmv' : Move E w L { h := (w.drew.alloc (.cells (olds.toArray ++ news.toArray ++ Builtin.zeroCells z.cells (cap2 - (els.length + xs.length))) e)).heap, st := E.st, g := setG E.g id x2 }
          (w.drew.alloc (.cells (olds.toArray ++ news.toArray ++ Builtin.zeroCells z.cells (cap2 - (els.length + xs.length))) e)) (pp ++ ((w.heap.size :: l1) ++ q)) :=
        ⟨hmv.ext, hmv.heap, hmv.size, hmv.keep, hmv.stN, fun c hc => hmv.new c (hperm.mem_iff.1 hc), ⟨hperm.nodup_iff.2 hmv.own.nodup, fun c hc => hmv.own.lt c (hperm.mem_iff.1 hc), fun c hc => hmv.own.off c (hperm.mem_iff.1 hc), hmv.own.stlt, hmv.own.sub⟩, hmv.os, hmv.tape, hmv.output, hmv.stF⟩
      refine ⟨_, _, _, _, _, _, hK, hR.step hmv' (b := setB id _ s.b) (n := s.n) hB (hkeys _) (gnok x2), hmv', ?_, rfl, fun h => nomatch h⟩
      exact .row (l := x2) (by simp [setG]) rfl (by simp [x2]) ⟨_, _, rfl⟩ fun _ => ⟨_, rfl, fun _ => by simp [x2]⟩
end Go.Ev
