import Derived.ArgAppend
import Derived.Laws.AppendOwn
import Derived.Laws.IdiomCopy
import Derived.MapKept
import Derived.Test.YtjmbfcodmmnbiaaDoorT0
set_option linter.unusedVariables false
set_option linter.unusedSimpArgs false
/-
append.
-/
set_option linter.unusedVariables false
set_option linter.unusedSimpArgs false
namespace Go.Ev
variable {Sp : FuncId → List AV → AV → List AV → Prop} {P : Program} {E : Env} {s : S} {a : Act} {w : World} {L : List Nat} {K : S → AV → Prop}

theorem noO_both : (∀ {v : AV} {cv : Value} {l : List Nat}, Rep E v cv l → NoO v → l = []) := by
  intro v cv l h
  refine @Rep.rec E (fun a v l _ => NoO a → l = []) (fun as vs l _ => NoOL as → l = [])
    (fun _ _ => rfl) (fun _ _ _ => rfl) (fun _ _ _ => rfl) (fun _ => rfl) (fun _ => rfl) (fun _ => rfl) (fun _ => rfl) (fun _ _ => rfl)
    ?_ ?_ ?_ ?_ ?_ ?_ ?_ (fun fl sz a cap _ => rfl) ?_ (fun sz _ => rfl) ?_ ?_ ?_ ?_ ?_ (fun _ => rfl) ?_ v cv l h
  · intros; rfl
  · intros; rfl
  · intros; rfl
  · intros; rfl
  · intros; rfl
  · intros; rfl
  · intro e j b cells ty fr l h1 h2 hc _ ih hb; simp only [NoO] at hb
  · intros; rfl
  · intro sz els b cap cells ty fr l h1 h2 h3 h4 h5 h6 _ ih hb; simp only [NoO] at hb
  · intro cs vs l _ ih hb; simp only [NoO] at hb; exact ih hb
  · intro cs vs l _ ih hb; simp only [NoO] at hb; exact ih hb
  · intro f cs vs l _ ih hb; simp only [NoO] at hb; exact ih hb
  · intro ks vs es clock b hb _ _ _ _ hbd; simp only [NoO] at hbd
  · intro a v as vs l m _ _ ih1 ih2 hb; simp only [NoOL] at hb; rw [ih1 hb.1, ih2 hb.2]; rfl
theorem noOL : ∀ {vs : List AV} {cv : List Value} {l : List Nat}, RepL E vs cv l → NoOL vs → l = []
  | _, _, _, .nil, _ => rfl
  | _, _, _, .cons h t, hn => by simp only [NoOL] at hn; rw [noO_both h hn.1, noOL t hn.2]; rfl
theorem noOL_iff : ∀ {cs : List AV}, NoOL cs ↔ ∀ v ∈ cs, NoO v
  | [] => by simp [NoOL]
  | c :: cs => by simp [NoOL, noOL_iff]
theorem noOL_cells {e : AV} (h : NoO e) : NoOL (cellsOf e) := by
  cases e <;> simp only [cellsOf, NoOL, and_true] <;> first | exact h | (simp only [NoO] at h; exact h)
theorem noOL_flat {els : List AV} (h : NoOL els) : NoOL (flat els) := by
  rw [noOL_iff] at *
  intro v hv
  obtain ⟨e, he, hv⟩ := List.mem_flatMap.1 hv
  exact noOL_iff.1 (noOL_cells (h e he)) v hv

/-- What is appended: where it lies. -/
structure Src (E : Env) (w : World) (cy : Value) (sz : Nat) (els : List AV) : Prop where
  z : ∀ e ∈ els, okE sz e
  is : ∃ ao cap, cy = .slice ao els.length cap ∧ (els ≠ [] → ∃ ad vs, ao = some ad ∧ (∀ j v, vs[j]? = some v → w.cell? (ad.add j) = some v) ∧ RepL E (flat els) vs [])

theorem cellsL_one : ∀ {cs : List AV} {vs : List Value} {l : List Nat}, RepL E cs vs l → allC1 cs = true → ∀ u ∈ vs, u.oneCell' = true
  | _, _, _, .nil, _, _, hu => by cases hu
  | _, _, _, .cons h t, h1, u, hu => by
    simp only [allC1, Bool.and_eq_true] at h1
    rcases List.mem_cons.1 hu with rfl | hu
    · exact h.one h1.1
    · exact cellsL_one t h1.2 u hu

theorem allC1_flat {els : List AV} {sz : Nat} (h : ∀ e ∈ els, okE sz e) : allC1 (flat els) = true := allC1_of fun c hc => by
  obtain ⟨e, he, hc⟩ := List.mem_flatMap.1 hc
  exact allC1_mem (h e he).2 c hc

theorem els_src (hR : R E s a w L) {y : AV} {cy : Value} (hy : Rep E y cy []) {f : Nat → List AV → Out} (h : outW Sp (elsO s.b y f) K) : ∃ sz els, outW Sp (f sz els) K ∧ Src E w cy sz els := by
  have rowcase : ∀ {id n off len : Nat} {r : Nat × List AV × Bool}, look id s.b = some (.row r.1 r.2.1 r.2.2) → n = r.2.1.length → off + len ≤ n → NoOL ((r.2.1.drop off).take len) →
      (∃ x c, E.g id = some x ∧ (x.n = n → ∃ ao, cy = .slice ao len c ∧ (0 < len → x.blk = none ∨ ao = x.blk.map fun b => ⟨b, off * x.sz, none⟩))) → Src E w cy r.1 ((r.2.1.drop off).take len) := by
    intro id n off len r hl hn hle hno ⟨x, c, hg, hh⟩
    obtain ⟨y', hy'⟩ := hR.row hl
    obtain rfl : x = y' := by have := hy'.g; rw [hg] at this; injection this
    obtain ⟨ao, rfl, hat⟩ := hh (by rw [hy'.n, hn])
    have hlen : ((r.2.1.drop off).take len).length = len := by simp; omega
    refine ⟨fun e he => hy'.z e (List.mem_of_mem_drop (List.mem_of_mem_take he)), ao, c, by rw [hlen], fun hne => ?_⟩
    have hpos : 0 < len := by
      rcases Nat.eq_zero_or_pos len with h | h
      · subst h; simp at hne
      · exact h
    rcases hy'.mem with ⟨he, _⟩ | ⟨b, cells, ty, fz, m, hb, hbw, hsz, hrep, _⟩
    · rw [he] at hne; simp at hne
    · have hao : ao = some ⟨b, off * x.sz, none⟩ := by
        rcases hat hpos with h | h
        · rw [hb] at h; cases h
        · rw [h, hb]; rfl
      have hf := flat_drop_take (l := off) (n := len) hy'.z
      have hno2 := noOL_flat hno
      refine ⟨_, ((cells.toList.take (r.2.1.length * r.1)).drop (off * r.1)).take (len * r.1), hao, fun j v hj => ?_, ?_⟩
      · rw [addr_add, cell_at, ← hR.heap, hy'.hsz]
        have h1 : (cells.toList.take (r.2.1.length * r.1))[off * r.1 + j]? = some v := by
          rw [List.getElem?_take] at hj
          split at hj
          · rw [List.getElem?_drop] at hj; exact hj
          · cases hj
        rw [List.getElem?_take] at h1
        split at h1
        · unfold cellAt; rw [hbw]; show cells[_]? = _; rw [← Array.getElem?_toList]; exact h1
        · cases h1
      · rw [hf] at hno2 ⊢
        -- the part's resources are none
        have e1 : flat r.2.1 = (flat r.2.1).take (off * r.1) ++ (((flat r.2.1).drop (off * r.1)).take (len * r.1) ++ (flat r.2.1).drop (off * r.1 + len * r.1)) := by
          rw [← List.drop_drop, List.take_append_drop, List.take_append_drop]
        have hflen := flat_len hy'.z
        rw [e1] at hrep
        obtain ⟨v1, v23, l1, l23, hc, rfl, g1, g23⟩ := hrep.split
        obtain ⟨v2, v3, l2, l3, rfl, rfl, g2, g3⟩ := g23.split
        obtain rfl := noOL g2 hno2
        have hmul : off * r.1 + len * r.1 ≤ r.2.1.length * r.1 := by rw [← Nat.add_mul]; exact Nat.mul_le_mul_right _ (by omega)
        have hv1 : v1.length = off * r.1 := by rw [← g1.length, List.length_take, hflen]; omega
        have hv2 : v2.length = len * r.1 := by rw [← g2.length, List.length_take, List.length_drop, hflen]; omega
        have e2 : ((v1 ++ (v2 ++ v3)).drop (off * r.1)).take (len * r.1) = v2 := by rw [← hv1, List.drop_left, ← hv2, List.take_left]
        rw [hc, e2]
        exact g2
  unfold elsO at h
  split at h
  · rename_i fl sz els
    refine ⟨sz, els, h, ?_⟩
    cases hy with
    | lst0 fl sz ao cap => exact ⟨by simp, ao, cap, rfl, fun h => absurd rfl h⟩
    | @lst _ _ _ b o cap vs hn hc hm hst hz ha hh =>
      refine ⟨hz, _, cap, rfl, fun _ => ⟨_, vs, rfl, fun j v hj => ?_, hh⟩⟩
      rw [addr_add, cell_at, ← hR.heap]
      exact ha j v hj
  · rename_i id n off len
    obtain ⟨r, hr, hA⟩ := outW_okO h
    obtain ⟨⟨hn, hle, hno⟩, hB⟩ := hA
    refine ⟨_, _, hB, rowcase (rowAt_look hr) hn hle hno ?_⟩
    cases hy with
    | @row _ _ _ _ x _ hg ho hn' hv hh =>
      obtain ⟨y, hy'⟩ := hR.row (rowAt_look hr)
      obtain rfl : x = y := by have := hy'.g; rw [hg] at this; injection this
      refine ⟨x, x.cap - off, hg, fun e => ?_⟩
      obtain ⟨ao, hao, hat⟩ := hh e
      exact ⟨ao, hao, fun hp => .inr (hat (.inl (by have := hy'.le; omega)))⟩
  · rename_i id n off len
    obtain ⟨r, hr, hA⟩ := outW_okO h
    obtain ⟨⟨hn, hle, hno⟩, hB⟩ := hA
    refine ⟨_, _, hB, rowcase (rowAt_look hr) hn hle hno ?_⟩
    cases hy with
    | @rowc _ _ _ _ x _ hg ho hn' hv hh =>
      refine ⟨x, len, hg, fun e => ?_⟩
      obtain ⟨ao, hao, hat⟩ := hh e
      exact ⟨ao, hao, fun hp => .inr (hat (.inl hp))⟩
  · exact h.elim

theorem zok_is {e : TypeId} (h : zok P e = true) : ∃ i z, P.info? e = some i ∧ i.zero = some z ∧ z.cells.size = i.size ∧ 0 < i.size ∧ i.size = szT P e ∧ i.bytes = byT P e := by
  unfold zok at h
  split at h
  · rename_i i hi
    split at h
    · rename_i z hz
      simp only [Bool.and_eq_true, beq_iff_eq, decide_eq_true_eq] at h
      exact ⟨i, z, hi, hz, h.1, h.2, by simp [szT, hi], by simp [byT, hi]⟩
    · cases h
  · cases h

theorem alloc_move (hR : R E s a w L) (w1 : World) (hw : w1.heap = w.heap) (ho : w1.os = w.os) (ht : w1.tape = w.tape) (hu : w1.output = w.output) (o : Obj) {g : Nat → Option Loc}
    (hg : ∀ id x, E.g id = some x → ∃ x', g id = some x' ∧ (x' = x ∨ x.obj = false ∧ x'.obj = false ∧ x.n < x'.n)) {L' : List Nat} (hn : L'.Nodup) (hs : ∀ b ∈ L', b ∈ L) :
    Move E w L { h := (w1.alloc o).heap, st := E.st, g := g } (w1.alloc o) (w.heap.size :: L') ∧ (∀ l : List Nat, (∀ b ∈ l, b ∈ L) → Ext E { h := (w1.alloc o).heap, st := E.st, g := g } l) ∧
      (w1.alloc o).heap[w.heap.size]? = some o := by
  have hsz : E.h.size = w.heap.size := by rw [hR.heap]
  have hlt : ∀ b ∈ L, b < w.heap.size := fun b hb => by rw [← hsz]; exact hR.own.lt b hb
  have hheap : (w1.alloc o).heap = w.heap.push o := by show w1.heap.push o = _; rw [hw]
  have hext : ∀ l : List Nat, (∀ b ∈ l, b ∈ L) → Ext E { h := (w1.alloc o).heap, st := E.st, g := g } l := fun l hl =>
    ⟨fun b hb => by
      have hb' : b < w.heap.size := by
        rcases hb with hb | hb
        · rw [← hsz]; exact hR.own.stlt _ _ hb
        · exact hlt b (hl b hb)
      show (w1.alloc o).heap[b]? = E.h[b]?
      rw [hheap, hR.heap, Array.getElem?_push_lt hb', Array.getElem?_eq_getElem hb'], fun _ _ h => h, hR.own.sub, hg⟩
  refine ⟨⟨hext [] (by simp), rfl, by rw [hheap]; simp, fun b hb _ => ?_, fun _ _ h => .inl h, fun b hb => ?_, ?_, ho, ht, hu, fun _ h => .inl h⟩, hext, by rw [hheap]; simp⟩
  · rw [hheap, Array.getElem?_push_lt hb, Array.getElem?_eq_getElem hb]
  · rcases List.mem_cons.1 hb with rfl | hb
    · exact .inr (Nat.le_refl _)
    · exact .inl (hs b hb)
  · refine ⟨List.nodup_cons.2 ⟨fun hm => by have := hlt _ (hs _ hm); omega, hn⟩, fun b hb => ?_, fun b hb => ?_, fun fl b hb => ?_, hR.own.sub⟩
    · show b < (w1.alloc o).heap.size
      rw [hheap]
      rcases List.mem_cons.1 hb with rfl | hb
      · simp
      · have := hlt b (hs b hb); simp; omega
    · rcases List.mem_cons.1 hb with rfl | hb
      · intro hst; have := hR.own.stlt _ _ hst; omega
      · exact hR.own.off b (hs b hb)
    · have := hR.own.stlt _ _ hb
      show b < (w1.alloc o).heap.size
      rw [hheap]; simp; omega

def setG (g : Nat → Option Loc) (id : Nat) (x : Loc) : Nat → Option Loc := fun i => if i = id then some x else g i

theorem appK_did (hR : R E s a w L) {t ty e : TypeId} (hk : kindT P t = .slice e) {id : Nat} {cx cy : Value} {r : Nat × List AV} (hown : ownAt s.b id = some r) {xsz : Nat} {xs : List AV} (hsrc : Src E w cy xsz xs) (hzk : zok P e = true)
    (hx : Rep E (.row id r.2.length 0 r.2.length) cx []) (h : outW Sp (appK s id (szT P e) (byT P e) xsz xs r.1 r.2) K) :
    Did E s a w L K ((Builtin.append_ #[t, t] ty #[cx, cy]).run P w) := by
  obtain ⟨⟨hbz, hxz, hby, hmx⟩, hK⟩ := h
  subst hxz
  obtain ⟨bsz, els0⟩ := r
  simp only at *
  subst hbz
  have hu := kind_slice hk
  obtain ⟨i, z, hi, hz, hzs, hipos, hisz, hiby⟩ := zok_is hzk
  obtain ⟨q0, hq0, hq1⟩ := Option.bind_eq_some_iff.1 hown
  have hlook := rowAt_look hq0
  obtain ⟨sz', els, fr⟩ := q0
  cases fr
  case true => simp at hq1
  simp only [Bool.false_eq_true, if_false, Option.some.injEq, Prod.mk.injEq] at hq1
  obtain ⟨rfl, rfl⟩ := hq1
  simp only at hlook
  obtain ⟨pp, l, q, hL, hb, hset⟩ := hR.blk.set hlook hR.keys
  obtain ⟨yo, ycap, rfl, hyv⟩ := hsrc.is
  -- the news
  obtain ⟨ad, news, hyo, hnews, hrn⟩ : ∃ (ad : Addr) (news : List Value), (xs ≠ [] → yo = some ad) ∧ (∀ j u, news[j]? = some u → w.cell? (ad.add j) = some u) ∧ RepL E (flat xs) news [] := by
    by_cases hne : xs = []
    · subst hne; exact ⟨⟨0, 0, none⟩, [], fun h => absurd rfl h, by simp, .nil⟩
    · obtain ⟨ad, vs, h1, h2, h3⟩ := hyv hne; exact ⟨ad, vs, fun _ => h1, h2, h3⟩
  have hnl : news.length = xs.length * i.size := by rw [← hrn.length, flat_len hsrc.z, hisz]
  have hn1 := cellsL_one hrn (allC1_flat hsrc.z)
  have hokall : ∀ {es : List AV}, (∀ e' ∈ es, okE (szT P e) e') → ∀ e' ∈ es ++ xs, okE (szT P e) e' := fun h1 e' he' => (List.mem_append.1 he').elim (h1 e') (hsrc.z e')
  cases hx with
  | @row _ _ _ _ x _ hg ho hn hv hh =>
    obtain ⟨y, hy⟩ := hR.row hlook
    obtain rfl : x = y := by have := hy.g; rw [hg] at this; injection this
    obtain ⟨ao, rfl, hat⟩ := hh hy.n
    have hat := hat (.inr rfl)
    simp only [Nat.sub_zero, Nat.zero_mul] at hat ⊢
    have gext : ∀ (x' : Loc), x'.obj = false → (x' = x ∨ x.n < x'.n) → ∀ k y, E.g k = some y → ∃ y', setG E.g id x' k = some y' ∧ (y' = y ∨ y.obj = false ∧ y'.obj = false ∧ y.n < y'.n) := by
      intro x' ho' hx' k y hk
      by_cases e : k = id
      · subst e
        rw [hg] at hk
        injection hk with hk
        subst hk
        exact ⟨x', by simp [setG], hx'.imp id fun h => ⟨ho, ho', h⟩⟩
      · exact ⟨y, by simp [setG, e, hk], .inl rfl⟩
    have gnok : ∀ (x' : Loc) (k : Nat) (y : Loc), setG E.g id x' k = some y → k < s.n := by
      intro x' k y hk
      by_cases e : k = id
      · subst e; exact hR.gn _ _ hg
      · simp only [setG, if_neg e] at hk; exact hR.gn _ _ hk
    have gother : ∀ (x' : Loc) (k : Nat), k ≠ id → k ∈ s.b.map (·.1) → setG E.g id x' k = E.g k := fun x' k hk _ => by simp [setG, hk]
    have hkeys : ∀ blk, ((setB id blk s.b).map (·.1)).Nodup := fun blk => by rw [keys_setB]; exact hR.keys
    by_cases hroom : els.length + xs.length ≤ x.cap
    · -- in place
      by_cases hxs : xs = []
      · -- nothing is appended
        subst hxs
        have hrun : (Builtin.append_ #[t, t] ty #[.slice ao els.length x.cap, .slice yo ([] : List AV).length ycap]).run P w = .ok (.slice ao els.length x.cap) w := by
          have h1 : els.length + 0 ≤ x.cap := hroom
          have hl0 : ∀ (x : Addr), (loadCells x 0).run P w = .ok #[] w := fun x => by simpa using run_loadCells_list (P := P) w x [] (by simp)
          cases yo <;> cases ao <;> simp [Builtin.append_, run_underlying hu, sizeOf, typeInfo, hi, Builtin.lenOf, Builtin.firstCells, storeCells, h1, hl0, hy.le]
        rw [hrun]
        have he : setB id (.row (szT P e) (els ++ []) false) s.b = s.b := by
          have : ∀ {b : Mem} {blk : Blk}, look id b = some blk → setB id blk b = b := by
            intro b
            induction b with
            | nil => intro _ _; rfl
            | cons p r ih =>
              intro blk hb
              simp only [look] at hb
              simp only [setB]
              split at hb
              · rename_i hk; injection hb with hb; subst hb; obtain ⟨k, u⟩ := p; simp only at hk; subst hk; simp
              · rename_i hk; rw [if_neg hk, ih hb]
          rw [List.append_nil]
          exact this hlook
        rw [he] at hK
        refine did_ok hR (v := .row id els.length 0 els.length) hK (.row hg ho hn ⟨_, _, rfl⟩ fun _ => ⟨ao, rfl, fun _ => by simp [hat]⟩)
      · cases hb with
        | @nil _ _ x' hg' ho' hx' hc' hn' hz0 =>
          obtain rfl : x = x' := by rw [hg] at hg'; injection hg'
          have : 0 < xs.length := List.length_pos_iff.2 hxs
          simp at hroom; omega
        | @row _ _ x' b cells ty' fz l hg' ho' hx' hn' hs' hb' hf hc hl hm hz' hh' =>
          obtain rfl : x = x' := by rw [hg] at hg'; injection hg'
          rw [hx'] at hat
          simp only [Option.map_some] at hat
          subst hat
          rw [hyo hxs]
          have hbw : w.heap[b]? = some (.cells cells ty' fz) := by rw [← hR.heap]; exact hb'
          have hsz : i.size = szT P e := hisz
          have hfit : els.length * i.size + news.length ≤ cells.size := by
            rw [hnl, ← Nat.add_mul, hsz]; exact Nat.le_trans (Nat.mul_le_mul_right _ hroom) hc
          have hrun := run_append_room_cells (P := P) w t ty e i hu hi b 0 els.length x.cap ad xs.length ycap news hnl hnews hn1 hroom
            (fun j hj => by
              rw [cell_at]; unfold cellAt; rw [hbw]
              show (cells[0 + els.length * i.size + j]?).isSome = true
              simp; omega)
            (fun j hj => by
              unfold World.frozen?
              rw [hbw]
              have := hf (0 + els.length * i.size + j) (by omega)
              simp only [Bool.and_eq_false_iff, decide_eq_false_iff_not]
              omega)
          rw [hrun]
          simp only [Nat.zero_add]
          let x2 : Loc := { x with n := els.length + xs.length }
          have hx2 : x.n < x2.n := by show x.n < els.length + xs.length; rw [hn']; have := List.length_pos_iff.2 hxs; omega
          have hbL : b ∈ L := by rw [hL]; simp
          obtain ⟨cells', g1, g2, g3, hmv, hext⟩ := write_move hR hbL hbw hfit (g := setG E.g id x2) (gext x2 ho (.inr hx2)) (L' := L) hR.own.nodup fun c hc => hc
          have hnd := hR.own.nodup
          have hbl : b ∉ l ∧ b ∉ pp ++ q := by
            rw [hL] at hnd
            rw [List.nodup_append] at hnd
            obtain ⟨_, h2, h3⟩ := hnd
            rw [List.cons_append, List.nodup_cons] at h2
            refine ⟨fun hm => h2.1 (by simp [hm]), fun hm => ?_⟩
            rcases List.mem_append.1 hm with hm | hm
            · exact h3 b hm b (by simp) rfl
            · exact h2.1 (by simp [hm])
          have hB := hset _ (.row (szT P e) (els ++ xs) false) (b :: l) (by
            refine .row (x := x2) (by simp [setG]) ho hx' (by simp [x2]) hs' g1 (by rw [g3]; exact hf) (by rw [g3]; exact hc) (by simpa using hroom) (by simpa [MX] using hmx) (hokall hz') ?_
            rw [flat_append, List.length_append, g2]
            have e1 : ((cells.toList.take (els.length * i.size)) ++ (news ++ cells.toList.drop (els.length * i.size + news.length))).take ((els.length + xs.length) * szT P e) = cells.toList.take (els.length * szT P e) ++ news := by
              have hl1 : (cells.toList.take (els.length * i.size)).length = els.length * i.size := by
                rw [List.length_take, Array.length_toList (xs := cells)]; omega
              have : (els.length + xs.length) * szT P e = (cells.toList.take (els.length * i.size) ++ news).length := by
                rw [List.length_append, hl1, hnl, Nat.add_mul, hsz]
              rw [this, ← List.append_assoc, List.take_left, hsz]
            rw [e1]
            have := (hh'.ext (hext l hbl.1)).append (hrn.ext (hext [] (by simp)))
            simpa using this) (hext _ hbl.2) (gother x2)
          rw [← hL] at hB
          refine ⟨_, _, _, _, L, _, hK, hR.step hmv (b := setB id _ s.b) (n := s.n) hB (hkeys _) (gnok x2), hmv, ?_, rfl, fun h => nomatch h⟩
          exact .row (l := x2) (by simp [setG]) ho (by simp [x2]) ⟨_, _, rfl⟩ fun _ => ⟨_, rfl, fun _ => by simp [x2, hx']⟩
    · -- a new block
      have hxs : xs ≠ [] := by
        rintro rfl
        have := hy.le
        simp at hroom; omega
      rw [hyo hxs]
      have hpos : 0 < xs.length := List.length_pos_iff.2 hxs
      have hby' : (els.length + xs.length) * i.bytes ≤ 140737488355328 := by rw [hiby]; exact hby
      let cap2 := grownCap w (els.length + xs.length) x.cap e
      let x2 : Loc := ⟨false, some w.heap.size, cap2, els.length + xs.length, szT P e⟩
      have hx2 : x.n < x2.n := by show x.n < els.length + xs.length; rw [hy.n]; omega
      have hcap2 : els.length + xs.length ≤ cap2 := grownCap_ge w _ _ e
      -- the old cells, and what they own
      obtain ⟨olds, l1, hl1, hrun, hro⟩ : ∃ (olds : List Value) (l1 : List Nat), (∀ c ∈ l1, c ∈ l) ∧
          ((Builtin.append_ #[t, t] ty #[.slice ao els.length x.cap, .slice (some ad) xs.length ycap]).run P w = .ok (.slice (some ⟨w.heap.size, 0, none⟩) (els.length + xs.length) cap2)
            (w.drew.alloc (.cells (olds.toArray ++ news.toArray ++ Builtin.zeroCells z.cells (cap2 - (els.length + xs.length))) e))) ∧ RepL E (flat els) olds l1 ∧ l1.Nodup ∧ ∀ c ∈ l1, c ∉ pp ∧ c ∉ q := by
        have hnd := hR.own.nodup
        rw [hL, List.nodup_append, List.nodup_append] at hnd
        obtain ⟨_, ⟨hnl1, _, hd2⟩, hd1⟩ := hnd
        have hsep : ∀ c ∈ l, c ∉ pp ∧ c ∉ q := fun c hc => ⟨fun hp => hd1 c hp c (by simp [hc]) rfl, fun hq => hd2 c hc c hq rfl⟩
        cases hb with
        | @nil _ _ x' hg' ho' hx' hc' hn' hz0 =>
          obtain rfl : x = x' := by rw [hg] at hg'; injection hg'
          rw [hx'] at hat
          simp only [Option.map_none] at hat
          subst hat
          refine ⟨[], [], by simp, ?_, .nil, List.nodup_nil, by simp⟩
          have hr := run_append_nil (P := P) w t ty e i z hu hi hz ad xs.length ycap news hnl hnews hpos (by omega) (by
            have : xs.length * i.bytes ≤ 140737488355328 := by simpa using hby'
            omega)
          rw [hc']
          simp only [List.length_nil, Nat.zero_add, cap2, hc']
          rw [hr]
          congr 2
          simp
        | @row _ _ x' b cells ty' fz l hg' ho' hx' hn' hs' hb' hf hc hl hm hz' hh' =>
          obtain rfl : x = x' := by rw [hg] at hg'; injection hg'
          rw [hx'] at hat
          simp only [Option.map_some] at hat
          subst hat
          have hbw : w.heap[b]? = some (.cells cells ty' fz) := by rw [← hR.heap]; exact hb'
          refine ⟨cells.toList.take (els.length * szT P e), l, fun c hc => by simp [hc], ?_, hh', (List.nodup_cons.1 hnl1).2, fun c hc => hsep c (by simp [hc])⟩
          have hlo : (cells.toList.take (els.length * szT P e)).length = els.length * i.size := by
            rw [List.length_take, Array.length_toList (xs := cells), hisz]
            exact Nat.min_eq_left (Nat.le_trans (Nat.mul_le_mul_right _ hl) hc)
          have hr := run_append_grow (P := P) w t ty e i z hu hi hz ⟨b, 0, none⟩ els.length x.cap (cells.toList.take (els.length * szT P e)) hlo (fun j v hj => by
              rw [addr_add, cell_at, Nat.zero_add]
              unfold cellAt
              rw [hbw]
              show cells[j]? = some v
              rw [List.getElem?_take] at hj
              split at hj
              · rw [← Array.getElem?_toList]; exact hj
              · cases hj) ad xs.length ycap news hnl hnews (by omega) (by omega) (growslice_fits (by omega) hby')
          exact hr
      obtain ⟨hrep1, hnd1, hsep1⟩ := hro
      rw [hrun]
      have hsubl : ∀ c ∈ l1 ++ (pp ++ q), c ∈ L := fun c hc => by
        rw [hL]
        simp only [List.mem_append] at hc ⊢
        rcases hc with hc | hc | hc
        · exact .inr (.inl (hl1 c hc))
        · exact .inl hc
        · exact .inr (.inr hc)
      have hnd : (pp ++ (l1 ++ q)).Nodup := by
        have h0 := hR.own.nodup
        rw [hL, List.nodup_append, List.nodup_append] at h0
        obtain ⟨hp, ⟨_, hq, _⟩, hpq⟩ := h0
        rw [List.nodup_append, List.nodup_append]
        refine ⟨hp, ⟨hnd1, hq, fun c hc d hd e => (hsep1 c hc).2 (e ▸ hd)⟩, fun c hc d hd e => ?_⟩
        rcases List.mem_append.1 hd with hd | hd
        · exact (hsep1 d hd).1 (e ▸ hc)
        · exact hpq c hc d (by simp [hd]) e
      obtain ⟨hmv, hext, hnew⟩ := alloc_move hR w.drew rfl rfl rfl rfl (.cells (olds.toArray ++ news.toArray ++ Builtin.zeroCells z.cells (cap2 - (els.length + xs.length))) e) (g := setG E.g id x2) (gext x2 rfl (.inr hx2)) (L' := pp ++ (l1 ++ q)) hnd
        (fun c hc => hsubl c (by simp only [List.mem_append] at hc ⊢; rcases hc with hc | hc | hc <;> simp [hc]))
      have hcsz : (olds.toArray ++ news.toArray ++ Builtin.zeroCells z.cells (cap2 - (els.length + xs.length))).size = cap2 * szT P e := by
        have ho' := hrep1.length
        rw [flat_len hy.z] at ho'
        simp only [Array.size_append, List.size_toArray, size_zeroCells, hzs, ← ho', hnl, hisz, ← Nat.add_mul]
        congr 1
        omega
      have hB := hset _ (.row (szT P e) (els ++ xs) false) (w.heap.size :: l1) (by
        refine .row (x := x2) (by simp [setG]) rfl rfl (by simp [x2]) rfl hnew (by intro k _ hk; exact Nat.not_lt_zero _ hk.2) (Nat.le_of_eq hcsz.symm) (by simpa [x2] using hcap2) (by simpa [MX] using hmx) (hokall hy.z) ?_
        rw [flat_append, List.length_append]
        have e1 : ((olds.toArray ++ news.toArray ++ Builtin.zeroCells z.cells (cap2 - (els.length + xs.length))).toList).take ((els.length + xs.length) * szT P e) = olds ++ news := by
          have ho' := hrep1.length
          rw [flat_len hy.z] at ho'
          have : (els.length + xs.length) * szT P e = (olds ++ news).length := by
            rw [List.length_append, ← ho', hnl, Nat.add_mul, hisz]
          rw [this]
          simp only [Array.toList_append]
          rw [List.take_left' (by simp)]
        rw [e1]
        have := (hrep1.ext (hext l1 (fun c hc => hsubl c (by simp [hc])))).append (hrn.ext (hext [] (by simp)))
        simpa using this) (hext _ (fun c hc => hsubl c (by simp only [List.mem_append] at hc ⊢; exact .inr hc))) (gother x2)
      -- the new block's number stands within the list
      have hperm : (pp ++ ((w.heap.size :: l1) ++ q)).Perm (w.heap.size :: (pp ++ (l1 ++ q))) := by
        rw [List.cons_append]; exact List.perm_middle
      have hmv' : Move E w L { h := (w.drew.alloc (.cells (olds.toArray ++ news.toArray ++ Builtin.zeroCells z.cells (cap2 - (els.length + xs.length))) e)).heap, st := E.st, g := setG E.g id x2 }
          (w.drew.alloc (.cells (olds.toArray ++ news.toArray ++ Builtin.zeroCells z.cells (cap2 - (els.length + xs.length))) e)) (pp ++ ((w.heap.size :: l1) ++ q)) :=
        ⟨hmv.ext, hmv.heap, hmv.size, hmv.keep, hmv.stN, fun c hc => hmv.new c (hperm.mem_iff.1 hc), ⟨hperm.nodup_iff.2 hmv.own.nodup, fun c hc => hmv.own.lt c (hperm.mem_iff.1 hc), fun c hc => hmv.own.off c (hperm.mem_iff.1 hc), hmv.own.stlt, hmv.own.sub⟩, hmv.os, hmv.tape, hmv.output, hmv.stF⟩
      refine ⟨_, _, _, _, _, _, hK, hR.step hmv' (b := setB id _ s.b) (n := s.n) hB (hkeys _) (gnok x2), hmv', ?_, rfl, fun h => nomatch h⟩
      exact .row (l := x2) (by simp [setG]) rfl (by simp [x2]) ⟨_, _, rfl⟩ fun _ => ⟨_, rfl, fun _ => by simp [x2]⟩
end Go.Ev

/-
Literals: slices and structs that are built; what goes into them is written no more.
-/
set_option linter.unusedVariables false
set_option linter.unusedSimpArgs false
namespace Go.Ev
variable {Sp : FuncId → List AV → AV → List AV → Prop} {P : Program} {E : Env} {s : S} {a : Act} {w : World} {L : List Nat} {K : S → AV → Prop}

theorem Move.trans {E1 E2 E3 : Env} {w1 w2 w3 : World} {L1 L2 L3 : List Nat} (h1 : Move E1 w1 L1 E2 w2 L2) (h2 : Move E2 w2 L2 E3 w3 L3) (hst : ∀ fl b, E1.st fl b → b < w1.heap.size) (hoff : ∀ b ∈ L2, ¬ E2.st false b) : Move E1 w1 L1 E3 w3 L3 where
  ext := ⟨fun b hb => (by
      rcases hb with hb | hb
      · rw [h2.ext.heap b (.inl (h1.ext.st _ _ hb)), h1.ext.heap b (.inl hb)]
      · cases hb), fun fl b hb => h2.ext.st _ _ (h1.ext.st _ _ hb), h1.ext.sub, fun id x hx => by
      obtain ⟨x', hx', h⟩ := h1.ext.g id x hx
      obtain ⟨x'', hx'', h'⟩ := h2.ext.g id x' hx'
      refine ⟨x'', hx'', ?_⟩
      rcases h with rfl | ⟨h3, h4, h5⟩ <;> rcases h' with rfl | ⟨h6, h7, h8⟩
      · exact .inl rfl
      · exact .inr ⟨h6, h7, h8⟩
      · exact .inr ⟨h3, h4, h5⟩
      · exact .inr ⟨h3, h7, by omega⟩⟩
  heap := h2.heap
  size := Nat.le_trans h1.size h2.size
  keep b hb hn := by
    have : b ∉ L2 := fun hm => by
      rcases h1.new b hm with h | h
      · exact hn h
      · omega
    rw [h2.keep b (Nat.lt_of_lt_of_le hb h1.size) this, h1.keep b hb hn]
  stF b hb := by
    rcases h2.stF b hb with h | h
    · rcases h1.stF b h with h | h
      · exact .inl h
      · exact .inr (h2.ext.st _ _ h)
    · exact .inr h
  stN fl b hb := by
    rcases h2.stN fl b hb with h | h | h
    · exact h1.stN fl b h
    · exact .inr (h1.new b h)
    · exact .inr (.inr (Nat.le_trans h1.size h))
  new b hb := by
    rcases h2.new b hb with h | h
    · exact h1.new b h
    · exact .inr (Nat.le_trans h1.size h)
  own := h2.own
  os := h2.os.trans h1.os
  tape := h2.tape.trans h1.tape
  output := h2.output.trans h1.output

theorem ext_self (hs : ∀ b, E.st true b → E.st false b) (l : List Nat) : Ext E E l := ⟨fun _ _ => rfl, fun _ _ h => h, hs, fun id x h => ⟨x, h, .inl rfl⟩⟩
theorem outW_fail {p : Prop} (h : outW Sp (.fail) K) : p := h.elim

/-- One value that goes into a list. -/
theorem frz1_ok (hR : R E s a w L) {v : AV} {cv : Value} (hv : Rep E v cv []) (h : (frz1 s.b v).2.2) :
    ∃ E' L', R E' { s with b := (frz1 s.b v).2.1 } a w L' ∧ Move E w L E' w L' ∧ Rep E' (frz1 s.b v).1 cv [] ∧ (∀ u cu, Rep E u cu [] → Rep E' u cu []) := by
  have triv : ∀ {v : AV}, Rep E v cv [] → ∃ E' L', R E' { s with b := s.b } a w L' ∧ Move E w L E' w L' ∧ Rep E' v cv [] ∧ (∀ u cu, Rep E u cu [] → Rep E' u cu []) := fun hv => ⟨E, L, hR, .refl hR, hv, fun _ _ h => h⟩
  unfold frz1 at h ⊢
  split
  · rename_i id n off len
    simp only at h
    split at h
    · rename_i sz els fr hl
      obtain ⟨hn, hle, hpos, hbd, hno⟩ := h
      obtain ⟨y, hy⟩ := hR.row hl
      obtain ⟨pp, l, q, hL, hb, hset⟩ := hR.blk.set hl hR.keys
      cases hv with
      | @row _ _ _ _ x _ hg ho hn' hv' hh =>
        obtain rfl : x = y := by have := hy.g; rw [hg] at this; injection this
        obtain ⟨ao, rfl, hat⟩ := hh (by rw [hy.n, hn])
        -- the block is written no more
        have main : ∃ E' L', R E' { s with b := setB id (.row sz els true) s.b } a w L' ∧ Move E w L E' w L' ∧ E'.h = E.h ∧ E'.g = E.g ∧ (∀ fl b, E.st fl b → E'.st fl b) ∧ (∀ b, x.blk = some b → E'.st true b) := by
          have hkeys : ((setB id (.row sz els true) s.b).map (·.1)).Nodup := by rw [keys_setB]; exact hR.keys
          cases hb with
          | nil hg' ho' hx' hc' hn' hz' =>
            have hbl := hset E (.row sz [] true) [] (.nil hg' ho' hx' hc' hn' hz') (ext_self hR.own.sub _) fun _ _ _ => rfl
            rw [← hL] at hbl
            refine ⟨E, L, hR.step (.refl hR) (b := setB id _ s.b) (n := s.n) hbl hkeys hR.gn, .refl hR, rfl, rfl, fun _ _ h => h, fun b hb => ?_⟩
            rw [hg] at hg'; injection hg' with hg'; subst hg'; rw [hx'] at hb; cases hb
          | frz hg' ho' hx' hn' hs' hb' hst hl' hm hz' hh' =>
            have hbl := hset E (.row sz els true) [] (.frz hg' ho' hx' hn' hs' hb' hst hl' hm hz' hh') (ext_self hR.own.sub _) fun _ _ _ => rfl
            rw [← hL] at hbl
            refine ⟨E, L, hR.step (.refl hR) (b := setB id _ s.b) (n := s.n) hbl hkeys hR.gn, .refl hR, rfl, rfl, fun _ _ h => h, fun b hb => ?_⟩
            rw [hg] at hg'; injection hg' with hg'; subst hg'; rw [hx'] at hb; injection hb with hb; subst hb; exact hst
          | @row _ _ x' b cells ty fz l hg' ho' hx' hn' hs' hb' hf hc hl' hm hz' hh' =>
            obtain rfl : x = x' := by rw [hg] at hg'; injection hg'
            obtain rfl := noOL hh' (noOL_flat hno)
            let E' : Env := { h := E.h, st := fun fl c => E.st fl c ∨ c = b, g := E.g }
            have hbL : b ∈ L := by rw [hL]; simp
            have hext : ∀ m : List Nat, Ext E E' m := fun m => ⟨fun _ _ => rfl, fun _ _ h => .inl h, hR.own.sub, fun id x h => ⟨x, h, .inl rfl⟩⟩
            have hbl := hset E' (.row sz els true) [] (.frz hg' ho' hx' hn' hs' hb' (.inr rfl) hl' hm hz' (hh'.ext (hext _))) (hext _) fun _ _ _ => rfl
            have hnd := hR.own.nodup
            rw [hL] at hnd
            have hsubl : (pp ++ ([] ++ q)).Sublist (pp ++ ([b] ++ q)) := (List.Sublist.refl pp).append ((List.nil_sublist _).append (.refl q))
            have hnb : b ∉ pp ++ ([] ++ q) := by
              rw [List.nodup_append] at hnd
              obtain ⟨_, h2, h3⟩ := hnd
              intro hm
              rcases List.mem_append.1 hm with hm | hm
              · exact h3 b hm b (by simp) rfl
              · rw [List.singleton_append, List.nodup_cons] at h2; exact h2.1 (by simpa using hm)
            have hmv : Move E w L E' w (pp ++ ([] ++ q)) := by
              refine ⟨hext [], hR.heap, Nat.le_refl _, fun _ _ _ => rfl, fun fl c hc => ?_, fun c hc => .inl (by rw [hL]; exact hsubl.subset hc), ?_, rfl, rfl, rfl, fun c hc => hc.imp (fun h => h) fun h => .inr h⟩
              · rcases hc with hc | rfl
                · exact .inl hc
                · exact .inr (.inl hbL)
              · refine ⟨hnd.sublist hsubl, fun c hc => hR.own.lt c (by rw [hL]; exact hsubl.subset hc), fun c hc hst => ?_, fun fl c hc => ?_, fun c hc => ?_⟩
                · rcases hst with hst | rfl
                  · exact hR.own.off c (by rw [hL]; exact hsubl.subset hc) hst
                  · exact hnb hc
                · rcases hc with hc | rfl
                  · exact hR.own.stlt fl c hc
                  · exact hR.own.lt c hbL
                · rcases hc with hc | rfl
                  · exact .inl (hR.own.sub c hc)
                  · exact .inr rfl
            exact ⟨E', _, hR.step hmv (b := setB id _ s.b) (n := s.n) hbl hkeys hR.gn, hmv, rfl, rfl, fun _ _ h => .inl h, fun c hc => by rw [hx'] at hc; injection hc with hc; exact .inr hc.symm⟩
        obtain ⟨E', L', hr, hm, hEh, hEg, hst, hstb⟩ := main
        simp only [hl]
        have hsame : ∀ u cu, Rep E u cu [] → Rep E' u cu [] := fun u cu hu => hu.ext hm.ext
        refine ⟨E', L', hr, hm, ?_, hsame⟩
        -- the part, as a list that stays
        have hlen : ((els.drop off).take len).length = len := by simp; omega
        by_cases hemp : len = 0
        · subst hemp; simp only [List.take_zero]; exact .lst0 _ _ _ _
        · rcases hy.mem with ⟨he, _⟩ | ⟨b, cells, ty, fz, m, hxb, hbw, hsz, hrep, _⟩
          · rw [he] at hlen; simp at hlen; omega
          · have hao := hat (.inl (by have := hy.le; omega))
            rw [hxb] at hao
            subst hao
            simp only [Option.map_some]
            have hmx := hy.mx
            have hle2 := hy.le
            have key : Rep E' (.lst true sz ((els.drop off).take len)) (.slice (some ⟨b, off * x.sz, none⟩) ((els.drop off).take len).length (x.cap - off)) [] := by
              refine .lst (cap := x.cap - off) (vs := ((cells.toList.take (els.length * sz)).drop (off * sz)).take (len * sz)) (fun h' => by rw [h'] at hlen; simp at hlen; omega) (by omega) (by omega) (hstb b hxb) (fun e he => hy.z e (List.mem_of_mem_drop (List.mem_of_mem_take he))) (fun j v hj => ?_) ?_
              · rw [hEh, hy.hsz]
                have h1 : (cells.toList.take (els.length * sz))[off * sz + j]? = some v := by
                  rw [List.getElem?_take] at hj
                  split at hj
                  · rw [List.getElem?_drop] at hj; exact hj
                  · cases hj
                rw [List.getElem?_take] at h1
                split at h1
                · unfold cellAt; rw [hbw]; show cells[_]? = _; rw [← Array.getElem?_toList]; exact h1
                · cases h1
              · rw [flat_drop_take (l := off) (n := len) hy.z]
                obtain rfl := noOL hrep (noOL_flat hno)
                exact (((hrep.drop _).take _).ext hm.ext)
            rw [hlen] at key
            exact key
    · exact h.elim
  · exact triv hv

theorem frzC_ok : ∀ {vs : List AV} {cvs : List Value} {E : Env} {s : S} {L : List Nat}, R E s a w L → RepL E vs cvs [] → (frzC s.b vs).2.2 →
    ∃ E' L', R E' { s with b := (frzC s.b vs).2.1 } a w L' ∧ Move E w L E' w L' ∧ RepL E' (frzC s.b vs).1 cvs [] ∧ (∀ u cu, Rep E u cu [] → Rep E' u cu [])
  | [], _, E, s, L, hR, hv, _ => by cases hv; exact ⟨E, L, hR, .refl hR, .nil, fun _ _ h => h⟩
  | v :: vs, cvs, E, s, L, hR, hv, h => by
    obtain ⟨cv, cvs', l1, l2, rfl, hl, h1, h2⟩ := hv.inv
    obtain ⟨rfl, rfl⟩ : l1 = [] ∧ l2 = [] := by simpa using hl.symm
    simp only [frzC] at h ⊢
    obtain ⟨E1, L1, hR1, hm1, hr1, hk1⟩ := frz1_ok hR h1 h.1
    have h2' : RepL E1 vs cvs' [] := h2.ext hm1.ext
    obtain ⟨E2, L2, hR2, hm2, hr2, hk2⟩ := frzC_ok hR1 h2' h.2
    refine ⟨E2, L2, hR2, hm1.trans hm2 ?_ hR1.own.off, .cons (l := []) (m := []) (hk2 _ _ hr1) hr2, fun u cu hu => hk2 _ _ (hk1 _ _ hu)⟩
    intro fl b hb; rw [← hR.heap]; exact hR.own.stlt fl b hb

theorem frzV_ok (hR : R E s a w L) {v : AV} {cv : Value} (hv : Rep E v cv []) (h : (frzV s.b v).2.2) :
    ∃ E' L', R E' { s with b := (frzV s.b v).2.1 } a w L' ∧ Move E w L E' w L' ∧ Rep E' (frzV s.b v).1 cv [] ∧ (∀ u cu, Rep E u cu [] → Rep E' u cu []) := by
  unfold frzV at h ⊢
  split
  · rename_i cs
    cases hv with
    | agg hv =>
      obtain ⟨E', L', h1, h2, h3, h4⟩ := frzC_ok hR hv h
      exact ⟨E', L', h1, h2, .agg h3, h4⟩
  · exact frz1_ok hR hv (by simpa using h)

theorem frzL_ok : ∀ {vs : List AV} {cvs : List Value} {E : Env} {s : S} {L : List Nat}, R E s a w L → RepL E vs cvs [] → (frzL s.b vs).2.2 →
    ∃ E' L', R E' { s with b := (frzL s.b vs).2.1 } a w L' ∧ Move E w L E' w L' ∧ RepL E' (frzL s.b vs).1 cvs [] ∧ (∀ u cu, Rep E u cu [] → Rep E' u cu [])
  | [], _, E, s, L, hR, hv, _ => by cases hv; exact ⟨E, L, hR, .refl hR, .nil, fun _ _ h => h⟩
  | v :: vs, cvs, E, s, L, hR, hv, h => by
    obtain ⟨cv, cvs', l1, l2, rfl, hl, h1, h2⟩ := hv.inv
    obtain ⟨rfl, rfl⟩ : l1 = [] ∧ l2 = [] := by simpa using hl.symm
    simp only [frzL] at h ⊢
    obtain ⟨E1, L1, hR1, hm1, hr1, hk1⟩ := frzV_ok hR h1 h.1
    have h2' : RepL E1 vs cvs' [] := h2.ext hm1.ext
    obtain ⟨E2, L2, hR2, hm2, hr2, hk2⟩ := frzL_ok hR1 h2' h.2
    refine ⟨E2, L2, hR2, hm1.trans hm2 ?_ hR1.own.off, .cons (l := []) (m := []) (hk2 _ _ hr1) hr2, fun u cu hu => hk2 _ _ (hk1 _ _ hu)⟩
    intro fl b hb; rw [← hR.heap]; exact hR.own.stlt fl b hb
end Go.Ev

/-
Slices and structs that are built.
-/
set_option linter.unusedVariables false
set_option linter.unusedSimpArgs false
namespace Go.Ev
variable {Sp : FuncId → List AV → AV → List AV → Prop} {P : Program} {E : Env} {s : S} {a : Act} {w : World} {L : List Nat} {K : S → AV → Prop}

theorem foldl_set : ∀ (cs : List Value) (k off : Nat) (arr : Array Value), off + k + cs.length ≤ arr.size →
    ((cs.zipIdx k).foldl (fun (x : Array Value) (p : Value × Nat) => x.setIfInBounds (off + p.2) p.1) arr).toList = arr.toList.take (off + k) ++ (cs ++ arr.toList.drop (off + k + cs.length))
  | [], k, off, arr, _ => by simp
  | c :: cs, k, off, arr, h => by
    simp only [List.length_cons] at h
    rw [List.zipIdx_cons, List.foldl_cons, foldl_set cs (k + 1) off _ (by simp; omega)]
    have e1 : (arr.setIfInBounds (off + k) c).toList = arr.toList.take (off + k) ++ (c :: arr.toList.drop (off + k + 1)) := by
      rw [Array.toList_setIfInBounds, List.set_eq_take_append_cons_drop, if_pos (by simp; omega)]
    have hlen : (arr.toList.take (off + k)).length = off + k := by simp; omega
    rw [e1]
    have e3 : (arr.toList.take (off + k) ++ c :: arr.toList.drop (off + k + 1)).take (off + (k + 1)) = arr.toList.take (off + k) ++ [c] := by
      rw [List.take_append, hlen, List.take_of_length_le (by omega), show off + (k + 1) - (off + k) = 1 by omega]
      simp
    have e4 : (arr.toList.take (off + k) ++ c :: arr.toList.drop (off + k + 1)).drop (off + (k + 1) + cs.length) = arr.toList.drop (off + k + (cs.length + 1)) := by
      rw [List.drop_append, hlen, List.drop_eq_nil_of_le (by omega), List.nil_append, show off + (k + 1) + cs.length - (off + k) = cs.length + 1 by omega, List.drop_succ_cons, List.drop_drop]
      congr 1; omega
    rw [e3, e4]
    simp

theorem fill_one {place : Nat → Option (Nat × Nat)} {cells : Array Value} {i off size : Nat} {v : Value} {rest : List (Nat × Value)} (hp : place i = some (off, size)) (hs : v.cells.size = size) (hl : off + size ≤ cells.size) :
    Instr.fill place cells ((i, v) :: rest) = Instr.fill place (cells.toList.take off ++ (v.cells.toList ++ cells.toList.drop (off + size))).toArray rest := by
  have h1 := foldl_set v.cells.toList 0 off cells (by simp; omega)
  simp only [Instr.fill, hp]
  have hc : ¬ ((v.cells.size ≠ size || off + v.cells.size > cells.size) = true) := by simp; omega
  rw [if_neg hc]
  congr 1
  rw [← Array.foldl_toList, Array.toList_zipIdx]
  have : ∀ x y : Array Value, x.toList = y.toList → x = y := fun x y h => Array.ext' h
  refine this _ _ ?_
  simp only [Nat.add_zero, Array.length_toList, hs] at h1
  simpa using h1

theorem fill_all {size : Nat} : ∀ (vals : List Value) (k : Nat) (pre post : List Value), (∀ v ∈ vals, v.cells.size = size) → pre.length = k * size → post.length = vals.length * size →
    Instr.fill (fun i => some (i * size, size)) (pre ++ post).toArray ((List.range' k vals.length).zip vals) = some (pre ++ vals.flatMap fun v => v.cells.toList).toArray
  | [], k, pre, post, _, _, h => by
    obtain rfl := List.eq_nil_of_length_eq_zero (by simpa using h)
    simp [Instr.fill]
  | v :: vals, k, pre, post, hv, hp, h => by
    have hvs := hv v (by simp)
    simp only [List.length_cons, Nat.add_mul, Nat.one_mul] at h
    rw [List.length_cons, List.range'_succ, List.zip_cons_cons, fill_one (off := k * size) (size := size) rfl hvs (by simp; omega)]
    have e1 : (pre ++ post).toArray.toList.take (k * size) = pre := by simp only [List.toList_toArray]; rw [← hp, List.take_left]
    have e2 : (pre ++ post).toArray.toList.drop (k * size + size) = post.drop size := by
      simp only [List.toList_toArray]; rw [← hp, ← List.drop_drop, List.drop_left]
    rw [e1, e2, ← List.append_assoc, fill_all vals (k + 1) (pre ++ v.cells.toList) (post.drop size) (fun u hu => hv u (by simp [hu])) (by simp [hp, hvs, Nat.add_mul]) (by simp; omega)]
    simp

theorem fields_eval (hR : R E s a w L) : ∀ {ps : List (Nat × Operand)} {fs : List (Nat × AV)}, fieldsOf s ps = some fs → fs.map (·.1) = ps.map (·.1) ∧ RepL E (fs.map (·.2)) (ps.map fun p => a.eval p.2) []
  | [], fs, h => by simp [fieldsOf] at h; subst h; exact ⟨rfl, .nil⟩
  | p :: ps, fs, h => by
    simp only [fieldsOf, Option.bind_eq_some_iff, Option.map_eq_some_iff] at h
    obtain ⟨v, hv, q, hq, rfl⟩ := h
    obtain ⟨h1, h2⟩ := fields_eval hR hq
    exact ⟨by simp [h1], .cons (l := []) (m := []) (hR.eval hv) h2⟩

theorem flat_cells {sz : Nat} : ∀ {es : List AV} {vs : List Value}, RepL E es vs [] → (∀ e ∈ es, okE sz e) → RepL E (flat es) (vs.flatMap fun v => v.cells.toList) [] ∧ ∀ v ∈ vs, v.cells.size = sz
  | [], vs, h, _ => by cases h; exact ⟨.nil, by simp⟩
  | e :: es, vs, h, hz => by
    obtain ⟨v, vs', l1, l2, rfl, hl, h1, h2⟩ := h.inv
    obtain ⟨rfl, rfl⟩ : l1 = [] ∧ l2 = [] := by simpa using hl.symm
    obtain ⟨g1, g2⟩ := flat_cells h2 fun x hx => hz x (by simp [hx])
    have he := hz e (by simp)
    have hc := h1.cells he.2
    refine ⟨?_, fun u hu => ?_⟩
    · have := hc.append g1
      simpa [flat] using this
    · rcases List.mem_cons.1 hu with rfl | hu
      · have := hc.length; rw [he.1] at this; simpa using this.symm
      · exact g2 u hu

theorem zip_parts {ps : List (Nat × Operand)} {n : Nat} (ev : Operand → Value) (h : ps.map (·.1) = List.range n) (hn : ps.length = n) : (ps.map fun p => (p.1, ev p.2)) = (List.range' 0 n).zip (ps.map fun p => ev p.2) := by
  rw [← List.range_eq_range', ← h, List.zip_map']

/-- A new row of this activation. -/
theorem row_alloc (hR : R E s a w L) {e : TypeId} {sz : Nat} {els : List AV} {w1 : World} (hw : w1.heap = w.heap) (ho : w1.os = w.os) (ht : w1.tape = w.tape) (hu : w1.output = w.output) {cells : Array Value} {cap : Nat} {vs : List Value}
    (hz : ∀ e ∈ els, okE sz e) (hv : RepL E (flat els) vs []) (hc : cells.toList.take (els.length * sz) = vs) (hsz : cells.size = cap * sz) (hle : els.length ≤ cap) (hm : els.length ≤ MX) :
    ∃ E' L', R E' { s with b := (s.n, .row sz els false) :: s.b, n := s.n + 1 } a (w1.alloc (.cells cells e)) L' ∧ Move E w L E' (w1.alloc (.cells cells e)) L' ∧
      Rep E' (.row s.n els.length 0 els.length) (.slice (some ⟨w.heap.size, 0, none⟩) els.length cap) [] := by
  let x : Loc := ⟨false, some w.heap.size, cap, els.length, sz⟩
  obtain ⟨hmv, hext, hnew⟩ := alloc_move hR w1 hw ho ht hu (.cells cells e) (g := updG E.g s.n x) (fun id y hy => ⟨y, updG_old hR.gn id y hy, .inl rfl⟩) (L' := L) hR.own.nodup fun _ h => h
  refine ⟨_, _, hR.step hmv (b := (s.n, .row sz els false) :: s.b) (n := s.n + 1) ?_ ?_ (updG_lt hR.gn), hmv, ?_⟩
  · have hb : BlkRep { h := (w1.alloc (.cells cells e)).heap, st := E.st, g := updG E.g s.n x } s.n (.row sz els false) [w.heap.size] :=
      .row (x := x) updG_new rfl rfl rfl rfl hnew (by intro k _ hk; exact Nat.not_lt_zero _ hk.2) (Nat.le_of_eq hsz.symm) hle hm hz (by rw [hc]; exact hv.ext (hext [] (by simp)))
    exact Blks.cons (l := [w.heap.size]) hb (hR.blk.ext (hext L fun _ h => h) fun id hid => by
      have := hR.keysLt id hid
      simp only [updG, if_neg (show ¬ id = s.n by omega)])
  · simp only [List.map_cons, List.nodup_cons]
    exact ⟨fun hm => by have := hR.keysLt _ hm; omega, hR.keys⟩
  · exact .row (l := x) updG_new rfl (Nat.le_refl _) ⟨_, _, rfl⟩ fun _ => ⟨_, rfl, fun _ => by simp [x]⟩

theorem buildSlice_did (hR : R E s a w L) {t e : TypeId} {n : Nat} {ps : List (Nat × Operand)} {fs : List (Nat × AV)} (hk : kindT P t = .slice e) (hf : fieldsOf s ps = some fs)
    (h : outW Sp (buildSliceO s (zok P e) (szT P e) n (fs.map (·.1)) (frzL s.b (fs.map (·.2)))) K) :
    Did E s a w L K ((Instr.buildSlice t n (ps.map fun p => (p.1, a.eval p.2)).toArray).run P w) := by
  obtain ⟨⟨hzk, hn, hix, hbound, hmx, hfr, hok⟩, hK⟩ := h
  obtain ⟨hf1, hf2⟩ := fields_eval hR hf
  obtain ⟨E1, L1, hR1, hm1, hr1, _⟩ := frzL_ok hR hf2 hfr
  obtain ⟨i, z, hi, hz, hzs, hipos, hisz, hiby⟩ := zok_is hzk
  have hu := kind_slice hk
  obtain ⟨g1, g2⟩ := flat_cells hr1 hok
  have hpl : (ps.map fun p => a.eval p.2).length = n := by rw [← hr1.length, hn]
  have hpl' : ps.length = n := by simpa using hpl
  have hcs : ((ps.map fun p => a.eval p.2).flatMap fun v => v.cells.toList).length = n * szT P e := by
    rw [← g1.length, flat_len hok, ← hn]
  have hrun : (Instr.buildSlice t n (ps.map fun p => (p.1, a.eval p.2)).toArray).run P w = .ok (.slice (some ⟨w.heap.size, 0, none⟩) n n) (w.alloc (.cells ((ps.map fun p => a.eval p.2).flatMap fun v => v.cells.toList).toArray e)) := by
    have hfill : Instr.fill (fun i => some (i * szT P e, szT P e)) ((Array.range (n * szT P e)).map (fun j => (if n * szT P e = 0 then #[] else z.cells)[j % (if n * szT P e = 0 then #[] else z.cells).size]!)) (ps.map fun p => (p.1, a.eval p.2)) =
        some ((ps.map fun p => a.eval p.2).flatMap fun v => v.cells.toList).toArray := by
      rw [zip_parts a.eval (hf1.symm.trans hix) hpl']
      have := fill_all (size := szT P e) (ps.map fun p => a.eval p.2) 0 [] (((Array.range (n * szT P e)).map (fun j => (if n * szT P e = 0 then #[] else z.cells)[j % (if n * szT P e = 0 then #[] else z.cells).size]!)).toList) g2 (by simp) (by simp [hpl'])
      rw [List.length_map, hpl', List.nil_append, Array.toArray_toList, List.nil_append] at this
      exact this
    have hnb : ¬ (n * szT P e > 2 ^ 24) := by omega
    simp only [Instr.buildSlice, Sem.run_bind, run_underlying hu, Result.andThen_ok, run_sizeOf hi, hisz, if_neg hnb, Sem.run_ite]
    by_cases h0 : n * szT P e = 0
    · simp only [h0, if_true] at hfill ⊢
      simp only [Sem.run_pure, Result.andThen_ok]
      rw [hfill]
      simp [newRow]
    · simp only [h0, if_false] at hfill ⊢
      simp only [zeroValue, typeInfo, Sem.run_bind, run_program, Result.andThen_ok, hi, Sem.run_pure, hz]
      rw [hfill]
      simp [newRow]
  rw [hrun]
  obtain ⟨E2, L2, hR2, hm2, hv2⟩ := row_alloc hR1 (e := e) (sz := szT P e) (els := (frzL s.b (fs.map (·.2))).1) (w1 := w) rfl rfl rfl rfl (cells := ((ps.map fun p => a.eval p.2).flatMap fun v => v.cells.toList).toArray) (cap := n) (vs := (ps.map fun p => a.eval p.2).flatMap fun v => v.cells.toList)
    hok g1 (by rw [← hn]; simp only [List.toList_toArray]; exact List.take_of_length_le (by omega)) (by simpa using hcs) (by omega) (by rw [← hn]; exact hmx)
  rw [← hn] at hv2 hK
  exact ⟨_, _, E2, _, L2, _, hK, hR2, hm1.trans hm2 (fun fl b hb => by rw [← hR.heap]; exact hR.own.stlt fl b hb) hR1.own.off, hv2, rfl, fun h => nomatch h⟩

/-! ### Structs -/
theorem offT_is {t : TypeId} {f o : Nat} (h : offT P t f = some o) : ∃ fs x, P.underlying t = some (.struct fs) ∧ fs[f]? = some x ∧ x.offset = o ∧ fszT P t f = szT P x.type ∧ 0 < szT P x.type := by
  unfold offT at h
  split at h
  · rename_i fs hu
    split at h
    · rename_i x hx
      split at h
      · cases h
      · rename_i hz
        injection h with h
        exact ⟨fs, x, hu, hx, h, by simp [fszT, hu, hx], by omega⟩
    · cases h
  · cases h

theorem places_run (w : World) : ∀ (fs : List Field), (∀ x ∈ fs, ∃ i, P.info? x.type = some i) →
    (fs.mapM (fun f => do pure (f.offset, ← sizeOf f.type)) : Sem (List (Nat × Nat))).run P w = .ok (fs.map fun f => (f.offset, szT P f.type)) w
  | [], _ => by simp
  | f :: fs, h => by
    obtain ⟨i, hi⟩ := h f (by simp)
    have ih := places_run w fs fun x hx => h x (by simp [hx])
    simp only [List.mapM_cons, Sem.run_bind, run_sizeOf hi, Result.andThen_ok, Sem.run_pure, ih, List.map_cons]
    simp [szT, hi]

theorem fillA_run {t : TypeId} {fds : Array Field} (hu : P.underlying t = some (.struct fds)) : ∀ {fs : List (Nat × AV)} {ps : List (Nat × Value)} {cs cs' : List AV} {vs : List Value} {E : Env},
    fs.map (·.1) = ps.map (·.1) → RepL E (fs.map (·.2)) (ps.map (·.2)) [] → RepL E cs vs [] → fillA P t fs cs = some cs' →
    ∃ vs', Instr.fill ((fds.map fun f => (f.offset, szT P f.type))[·]?) vs.toArray ps = some vs'.toArray ∧ RepL E cs' vs' []
  | [], ps, cs, cs', vs, E, h1, h2, h3, h => by
    cases ps with
    | nil => simp only [fillA, Option.some.injEq] at h; subst h; exact ⟨vs, by simp [Instr.fill], h3⟩
    | cons p ps => simp at h1
  | (f, v) :: fs, ps, cs, cs', vs, E, h1, h2, h3, h => by
    cases ps with
    | nil => simp at h1
    | cons p ps =>
      obtain ⟨pi, pv⟩ := p
      simp only [List.map_cons, List.cons.injEq] at h1
      obtain ⟨rfl, h1⟩ := h1
      simp only [List.map_cons] at h2
      obtain ⟨v', vs', l1, l2, e, hl, hv, ht⟩ := h2.inv
      injection e with e1 e2
      subst e1 e2
      obtain ⟨rfl, rfl⟩ : l1 = [] ∧ l2 = [] := by simpa using hl.symm
      simp only [fillA, Option.bind_eq_some_iff] at h
      obtain ⟨o, ho, h⟩ := h
      split at h
      · rename_i hc
        obtain ⟨hc1, hc2, hc3⟩ := hc
        obtain ⟨fds', x, hu', hx, hxo, hfs, hpos⟩ := offT_is ho
        obtain rfl : fds' = fds := by rw [hu] at hu'; injection hu' with h; injection h with h; exact h.symm
        have hcells := hv.cells hc3
        have hvs : pv.cells.size = szT P x.type := by rw [← hfs, hc1]; have := hcells.length; simpa using this.symm
        have hlen := h3.length
        have hplace : (fds'.map fun f => (f.offset, szT P f.type))[f]? = some (o, szT P x.type) := by simp [hx, hxo]
        rw [fill_one hplace hvs (by simp; omega)]
        refine fillA_run hu h1 ht ?_ h
        simp only [List.toList_toArray]
        have e1 : putAt cs o (cellsOf v) = cs.take o ++ (cellsOf v ++ cs.drop (o + (cellsOf v).length)) := by simp [putAt]
        rw [e1, ← hc1, hfs]
        have := (h3.take o).append (hcells.append (h3.drop (o + szT P x.type)))
        simpa using this
      · cases h

theorem build_run (hR : R E s a w L) {t : TypeId} {ps : List (Nat × Operand)} {fs : List (Nat × AV)} {z cs : List AV} (hf : fieldsOf s ps = some fs) (hz : aggOf (zeroT P t) = some z) (hfo : fieldsOk P t = true)
    (hcs : fillA P t fs z = some cs) : ∃ cv, Rep E (.agg cs) cv [] ∧ (Instr.build t (ps.map fun p => (p.1, a.eval p.2)).toArray).run P w = .ok cv w := by
  obtain ⟨hf1, hf2⟩ := fields_eval hR hf
  have hzt : zeroT P t = .agg z := by
    unfold aggOf at hz; split at hz
    · rename_i vs he; injection hz with hz; subst hz; exact he
    · cases hz
  obtain ⟨zv, hzv, hrz⟩ := zeroT_rep (P := P) (E := E) (t := t) (.inr ⟨z, hzt⟩)
  rw [hzt] at hrz
  obtain ⟨i, hi, hzi⟩ := Option.bind_eq_some_iff.1 hzv
  unfold fieldsOk at hfo
  split at hfo
  · rename_i fds hu
    cases hrz with
    | agg hrz =>
      rename_i zvs
      obtain ⟨vs', h1, h2⟩ := fillA_run (ps := ps.map fun p => (p.1, a.eval p.2)) hu (by simpa [Function.comp_def] using hf1) (by simpa [Function.comp_def] using hf2) hrz hcs
      have hpl := places_run (P := P) w fds.toList fun x hx => by
        have := List.all_eq_true.1 hfo x hx
        exact Option.isSome_iff_exists.1 this
      have hrun : (Instr.build t (ps.map fun p => (p.1, a.eval p.2)).toArray).run P w = .ok (.agg vs'.toArray) w := by
        have hm : (fds.mapM (fun f => do pure (f.offset, ← sizeOf f.type)) : Sem (Array (Nat × Nat))).run P w = .ok (fds.map fun f => (f.offset, szT P f.type)) w := by
          rw [Array.mapM_eq_mapM_toList, Sem.run_map, hpl]
          simp only [Result.andThen_ok]
          congr 1
          apply Array.ext'
          simp
        simp only [Instr.build, Sem.run_bind, zeroValue, typeInfo, run_program, hi, Result.andThen_ok, Sem.run_pure, hzi, run_underlying hu, hm, Value.cells]
        simp only [Array.toArray_toList] at h1
        rw [show (zvs : Array Value) = zvs from rfl]
        simp only [List.toList_toArray, h1, Sem.run_pure]
      exact ⟨_, .agg (by simpa using h2), hrun⟩
  · cases hfo
theorem build_did (hR : R E s a w L) {t : TypeId} {ps : List (Nat × Operand)} {fs : List (Nat × AV)} {z cs : List AV} (hf : fieldsOf s ps = some fs) (hz : aggOf (zeroT P t) = some z) (hfo : fieldsOk P t = true)
    (hcs : fillA P t fs z = some cs) (h : outW Sp (moveO s (.agg cs) (unf (.agg cs) s.b s.n)) K) :
    DidG true E s a w L K ((Instr.build t (ps.map fun p => (p.1, a.eval p.2)).toArray).run P w) := by
  obtain ⟨cv, hv, hrun⟩ := build_run hR hf hz hfo hcs
  rw [hrun]
  exact unf_did hR hv h

/-- append to a part without room. -/
theorem appendC_did (hR : R E s a w L) {t ty e : TypeId} (hk : kindT P t = .slice e) {id n off len : Nat} {cx cy : Value} {y : AV} (hx : Rep E (.rowc id n off len) cx []) (hy : Rep E y cy [])
    (h : outW Sp (appendO s (zok P e) (szT P e) (byT P e) (.rowc id n off len) y) K) : Did E s a w L K ((Builtin.append_ #[t, t] ty #[cx, cy]).run P w) := by
  simp only [appendO] at h
  obtain ⟨wsz, ws, hA, hsx⟩ := els_src hR hx h
  obtain ⟨xsz, xs, hB, hsy⟩ := els_src hR hy hA
  have hu := kind_slice hk
  by_cases hne : xs = []
  · rw [if_pos hne] at hB
    obtain ⟨hzk, hK⟩ := hB
    obtain ⟨i, z, hi, hz, hzs, hipos, hisz, hiby⟩ := zok_is hzk
    obtain ⟨yo, ycap, rfl, hyv⟩ := hsy.is
    have hx' := hx
    cases hx with
    | rowc hg ho hn hv hh =>
      obtain ⟨ao, rfl⟩ := hv
      subst hne
      have hrun : (Builtin.append_ #[t, t] ty #[.slice ao len len, .slice yo ([] : List AV).length ycap]).run P w = .ok (.slice ao len len) w := by
        have hl0 : ∀ (x : Addr), (loadCells x 0).run P w = .ok #[] w := fun x => by simpa using run_loadCells_list (P := P) w x [] (by simp)
        cases yo <;> cases ao <;> simp [Builtin.append_, run_underlying hu, sizeOf, typeInfo, hi, Builtin.lenOf, Builtin.firstCells, storeCells, hl0]
      rw [hrun]
      exact did_ok hR hK hx'
  rw [if_neg hne] at hB
  obtain ⟨⟨hzk, rfl, rfl, hby, hmx⟩, hK⟩ := hB
  obtain ⟨i, z, hi, hz, hzs, hipos, hisz, hiby⟩ := zok_is hzk
  obtain ⟨xo, xcap, rfl, hxv⟩ := hsx.is
  obtain ⟨yo, ycap, rfl, hyv⟩ := hsy.is
  obtain ⟨ad, news, rfl, hnews, hrn⟩ := hyv hne
  have hnl : news.length = xs.length * i.size := by rw [← hrn.length, flat_len hsy.z, hisz]
  have hpos : 0 < xs.length := List.length_pos_iff.2 hne
  have hby' : (ws.length + xs.length) * i.bytes ≤ 140737488355328 := by rw [hiby]; exact hby
  obtain rfl : xcap = ws.length := by
    cases hx with
    | rowc hg ho hn hv hh => obtain ⟨a', hv⟩ := hv; injection hv with h1 h2 h3; omega
  obtain ⟨olds, hro, hrun⟩ : ∃ olds : List Value, RepL E (flat ws) olds [] ∧ (Builtin.append_ #[t, t] ty #[.slice xo ws.length ws.length, .slice (some ad) xs.length ycap]).run P w =
      .ok (.slice (some ⟨w.heap.size, 0, none⟩) (ws.length + xs.length) (grownCap w (ws.length + xs.length) ws.length e))
        (w.drew.alloc (.cells (olds.toArray ++ news.toArray ++ Builtin.zeroCells z.cells (grownCap w (ws.length + xs.length) ws.length e - (ws.length + xs.length))) e)) := by
    have grow : ∀ (b : Addr) (olds : List Value), RepL E (flat ws) olds [] → xo = some b → (∀ j v, olds[j]? = some v → w.cell? (b.add j) = some v) → ∃ olds : List Value, RepL E (flat ws) olds [] ∧ (Builtin.append_ #[t, t] ty #[.slice xo ws.length ws.length, .slice (some ad) xs.length ycap]).run P w =
      .ok (.slice (some ⟨w.heap.size, 0, none⟩) (ws.length + xs.length) (grownCap w (ws.length + xs.length) ws.length e))
        (w.drew.alloc (.cells (olds.toArray ++ news.toArray ++ Builtin.zeroCells z.cells (grownCap w (ws.length + xs.length) ws.length e - (ws.length + xs.length))) e)) := by
      rintro b olds hro rfl holds
      exact ⟨olds, hro, run_append_grow (P := P) w t ty e i z hu hi hz b ws.length ws.length olds (by rw [← hro.length, flat_len hsx.z, hisz]) holds ad xs.length ycap news hnl hnews (by omega) (by omega) (growslice_fits (by omega) hby')⟩
    by_cases hws : ws = []
    · subst hws
      cases xo with
      | some b => exact grow b [] (by exact .nil) rfl (by simp)
      | none =>
        refine ⟨[], .nil, ?_⟩
        have hr := run_append_nil (P := P) w t ty e i z hu hi hz ad xs.length ycap news hnl hnews hpos (by omega) (by
          have : xs.length * i.bytes ≤ 140737488355328 := by simpa using hby'
          omega)
        simp only [List.length_nil, Nat.zero_add]
        rw [hr]
        congr 2
        simp
    · obtain ⟨b, olds, rfl, h1, h2⟩ := hxv hws
      exact grow b olds h2 rfl h1
  rw [hrun]
  have hok : ∀ x ∈ ws ++ xs, okE (szT P e) x := fun x hx => (List.mem_append.1 hx).elim (hsx.z x) (hsy.z x)
  have hcap := grownCap_ge w (ws.length + xs.length) ws.length e
  have ho' := hro.length
  rw [flat_len hsx.z] at ho'
  have hrep : RepL E (flat (ws ++ xs)) (olds ++ news) [] := by rw [flat_append]; simpa using hro.append hrn
  obtain ⟨E2, L2, hR2, hm2, hv2⟩ := row_alloc hR (e := e) (sz := szT P e) (els := ws ++ xs) (w1 := w.drew) rfl rfl rfl rfl
    (cells := olds.toArray ++ news.toArray ++ Builtin.zeroCells z.cells (grownCap w (ws.length + xs.length) ws.length e - (ws.length + xs.length))) (cap := grownCap w (ws.length + xs.length) ws.length e) (vs := olds ++ news)
    hok hrep (by
      have : (ws ++ xs).length * szT P e = (olds ++ news).length := by rw [List.length_append, List.length_append, ← ho', hnl, Nat.add_mul, hisz]
      rw [this]
      simp only [Array.toList_append]
      rw [List.take_left' (by simp)]) (by
      simp only [Array.size_append, List.size_toArray, size_zeroCells, hzs, ← ho', hnl, hisz, ← Nat.add_mul]
      congr 1
      omega) (by simpa using hcap) (by simpa [MX] using hmx)
  rw [List.length_append] at hv2
  exact ⟨_, _, E2, _, L2, _, hK, hR2, hm2, hv2, rfl, fun h => nomatch h⟩
end Go.Ev

/-
What a call takes along, and what comes back.
-/
set_option linter.unusedVariables false
set_option linter.unusedSimpArgs false
namespace Go.Ev
variable {Sp : FuncId → List AV → AV → List AV → Prop} {P : Program} {E : Env} {s : S} {a : Act} {w : World} {L : List Nat} {K : S → AV → Prop}

structure FoldOk (E : Env) (v' : AV) (cv : Value) (b b' : Mem) (l L l' L' rest : List Nat) (v : AV) : Prop where
  rep : Rep E v' cv l'
  blk : Blks E b' L'
  perm : (l' ++ (L' ++ rest)).Perm (l ++ L)
  bd : Bd 0 v'
  keys : (b'.map (·.1)).Sublist (b.map (·.1))
  c1 : C1 v = true → C1 v' = true
structure FoldOkL (E : Env) (v' : List AV) (cv : List Value) (b b' : Mem) (l L l' L' rest : List Nat) (v : List AV) : Prop where
  rep : RepL E v' cv l'
  blk : Blks E b' L'
  perm : (l' ++ (L' ++ rest)).Perm (l ++ L)
  bd : BdL 0 v'
  keys : (b'.map (·.1)).Sublist (b.map (·.1))
  c1 : allC1 v = true → allC1 v' = true
  len : v'.length = v.length

theorem rep_all {a : AV} {cv : Value} (h : Rep E a cv []) {b : Mem} {L : List Nat} (hb : Blks E b L) (hbd : Bd 0 a) : True := trivial

theorem take_flat {els : List AV} {sz n : Nat} (hz : ∀ e ∈ els, okE sz e) : flat (els.take n) = (flat els).take (n * sz) := by
  have := flat_drop_take (l := 0) (n := n) hz
  simpa using this

theorem fold_ok_both : ∀ (k : Nat),
    (∀ (b : Mem) (v v' : AV) (b' : Mem) (p : Prop), fold k b v = some (v', b', p) → p → ∀ (cv : Value) (l L : List Nat), Rep E v cv l → Blks E b L → (b.map (·.1)).Nodup → ∃ l' L' rest, FoldOk E v' cv b b' l L l' L' rest v) ∧
    (∀ (b : Mem) (v v' : List AV) (b' : Mem) (p : Prop), foldL k b v = some (v', b', p) → p → ∀ (cv : List Value) (l L : List Nat), RepL E v cv l → Blks E b L → (b.map (·.1)).Nodup → ∃ l' L' rest, FoldOkL E v' cv b b' l L l' L' rest v)
  | 0 => ⟨fun b v v' b' p h => by simp [fold] at h, fun b v v' b' p h => by simp [foldL] at h⟩
  | k + 1 => by
    obtain ⟨ih1, ih2⟩ := fold_ok_both k
    constructor
    · intro b v v' b' p h hp cv l L hv hb hk
      have dflt : some (v, b, Bd 0 v) = some (v', b', p) → ∃ l' L' rest, FoldOk E v' cv b b' l L l' L' rest v := by
        intro h
        simp only [Option.some.injEq, Prod.mk.injEq] at h
        obtain ⟨rfl, rfl, rfl⟩ := h
        exact ⟨l, L, [], ⟨hv, hb, by simp, hp, List.Sublist.refl _, fun h => h⟩⟩
      cases v
      case row id n off len =>
        simp only [fold] at h
        split at h
        · -- a row that is written no more
          rename_i sz els hl
          simp only [Option.some.injEq, Prod.mk.injEq] at h
          obtain ⟨rfl, rfl, rfl⟩ := h
          obtain ⟨hn, hle, hbd⟩ := hp
          obtain ⟨pp, lb, q, hL, hbr, hrest⟩ := hb.get hl
          cases hv with
          | @row _ _ _ _ x _ hg ho hn' hv' hh =>
            refine ⟨[], L, [], ⟨?_, hb, by simp, bdL_of fun v hv => bdL_mem hbd v (List.mem_of_mem_drop (List.mem_of_mem_take hv)), List.Sublist.refl _, fun _ => rfl⟩⟩
            have hlen : ((els.drop off).take len).length = len := by simp; omega
            cases hbr with
            | nil => obtain ⟨a', c', rfl⟩ := hv'; simp at hn hlen; subst hlen; simp; exact .lst0 _ _ _ _
            | @frz _ _ x' b1 cells ty fz hg' ho' hx' hn'' hs' hb' hst hl' hm hz' hh' =>
              obtain rfl : x = x' := by rw [hg] at hg'; injection hg'
              obtain ⟨ao, rfl, hat⟩ := hh (by rw [hn'', hn])
              by_cases hemp : len = 0
              · subst hemp; simp only [List.take_zero]; exact .lst0 _ _ _ _
              · have hao := hat (.inl (by omega))
                rw [hx'] at hao
                subst hao
                simp only [Option.map_some]
                have key : Rep E (.lst true sz ((els.drop off).take len)) (.slice (some ⟨b1, off * x.sz, none⟩) ((els.drop off).take len).length (x.cap - off)) [] := by
                  refine .lst (cap := x.cap - off) (vs := ((cells.toList.take (els.length * sz)).drop (off * sz)).take (len * sz)) (fun h' => by rw [h'] at hlen; simp at hlen; omega) (by omega) (by omega) hst (fun e he => hz' e (List.mem_of_mem_drop (List.mem_of_mem_take he))) (fun j v hj => ?_) ?_
                  · rw [hs']
                    have h1 : (cells.toList.take (els.length * sz))[off * sz + j]? = some v := by
                      rw [List.getElem?_take] at hj
                      split at hj
                      · rw [List.getElem?_drop] at hj; exact hj
                      · cases hj
                    rw [List.getElem?_take] at h1
                    split at h1
                    · unfold cellAt; rw [hb']; show cells[_]? = _; rw [← Array.getElem?_toList]; exact h1
                    · cases h1
                  · rw [flat_drop_take (l := off) (n := len) hz']
                    exact (hh'.drop _).take _
                rw [hlen] at key
                exact key
        · -- a row
          rename_i sz els hl
          simp only [Option.some.injEq, Prod.mk.injEq] at h
          obtain ⟨rfl, rfl, rfl⟩ := h
          obtain ⟨hn, rfl, hle, hbd⟩ := hp
          obtain ⟨pp, lb, q, hL, hbr, hrest⟩ := hb.get hl
          have hkeys : ((delB id b).map (·.1)).Sublist (b.map (·.1)) := by rw [keys_delB]; exact List.erase_sublist
          have hbdt : BdL 0 (els.take len) := bdL_of fun v hv => bdL_mem hbd v (List.mem_of_mem_take hv)
          cases hv with
          | @row _ _ _ _ x _ hg ho hn' hv' hh =>
            cases hbr with
            | @nil _ _ x' hg' ho' hx' hc' hn'' hz0 =>
              obtain rfl : x = x' := by rw [hg] at hg'; injection hg'
              have hn0 : n = 0 := by simpa using hn
              subst hn0
              obtain ⟨ao, rfl, hat⟩ := hh hn''
              have := hat (.inr rfl)
              rw [hx'] at this
              simp only [Option.map_none] at this
              subst this
              have hl0 : len = 0 := by omega
              subst hl0
              refine ⟨[], pp ++ q, [], ⟨by rw [hc']; exact .olst0 _, hrest, by simp [hL], by simp [Bd, BdL], hkeys, fun _ => rfl⟩⟩
            | @row _ _ x' b1 cells ty fz lb hg' ho' hx' hn'' hs' hb' hf hc hl' hm hz' hh' =>
              obtain rfl : x = x' := by rw [hg] at hg'; injection hg'
              obtain ⟨ao, rfl, hat⟩ := hh (by rw [hn'', hn])
              have hao := hat (.inr rfl)
              rw [hx'] at hao
              subst hao
              simp only [Option.map_some, Nat.zero_mul, Nat.sub_zero]
              have e1 : flat els = flat (els.take len) ++ flat (els.drop len) := by rw [← flat_append, List.take_append_drop]
              rw [e1] at hh'
              obtain ⟨v1, v2, l1, l2, hct, rfl, g1, g2⟩ := hh'.split
              have hlen : (els.take len).length = len := by simp; omega
              have hv1 : v1.length = len * sz := by rw [← g1.length, flat_len fun e he => hz' e (List.mem_of_mem_take he), hlen]
              have hct2 : cells.toList.take (len * sz) = v1 := by
                have : (cells.toList.take (els.length * sz)).take (len * sz) = v1 := by rw [hct, ← hv1, List.take_left]
                rw [List.take_take] at this
                rw [Nat.min_eq_left (Nat.mul_le_mul_right _ (by omega))] at this
                exact this
              refine ⟨b1 :: l1, pp ++ q, l2, ⟨?_, hrest, ?_, hbdt, hkeys, fun _ => rfl⟩⟩
              · have key : Rep E (.olst sz (els.take len)) (.slice (some ⟨b1, 0, none⟩) (els.take len).length x.cap) (b1 :: l1) :=
                  .olst hb' hf hc (by omega) (by omega) (fun e he => hz' e (List.mem_of_mem_take he)) (by rw [hlen, hct2]; exact g1)
                rw [hlen] at key
                exact key
              · rw [hL]
                simp only [List.cons_append, List.nil_append]
                refine List.perm_iff_count.2 fun y => ?_
                simp only [List.count_append, List.count_cons]
                omega
        · cases h
      case rowc id n off len =>
        simp only [fold] at h
        split at h
        · -- a row without room
          rename_i sz els hl
          simp only [Option.some.injEq, Prod.mk.injEq] at h
          obtain ⟨rfl, rfl, rfl⟩ := h
          obtain ⟨hn, rfl, hle, hbd⟩ := hp
          obtain ⟨pp, lb, q, hL, hbr, hrest⟩ := hb.get hl
          have hkeys : ((delB id b).map (·.1)).Sublist (b.map (·.1)) := by rw [keys_delB]; exact List.erase_sublist
          have hbdt : BdL 0 (els.take len) := bdL_of fun v hv => bdL_mem hbd v (List.mem_of_mem_take hv)
          cases hv with
          | @rowc _ _ _ _ x _ hg ho hn' hv' hh =>
            cases hbr with
            | @nil _ _ x' hg' ho' hx' hc' hn'' hz0 =>
              obtain rfl : x = x' := by rw [hg] at hg'; injection hg'
              have hn0 : n = 0 := by simpa using hn
              subst hn0
              obtain ⟨ao, rfl, hat⟩ := hh hn''
              have := hat (.inr rfl)
              rw [hx'] at this
              simp only [Option.map_none] at this
              subst this
              have hl0 : len = 0 := by omega
              subst hl0
              refine ⟨[], pp ++ q, [], ⟨by exact .olst0 _, hrest, by simp [hL], by simp [Bd, BdL], hkeys, fun _ => rfl⟩⟩
            | @row _ _ x' b1 cells ty fz lb hg' ho' hx' hn'' hs' hb' hf hc hl' hm hz' hh' =>
              obtain rfl : x = x' := by rw [hg] at hg'; injection hg'
              obtain ⟨ao, rfl, hat⟩ := hh (by rw [hn'', hn])
              have hao := hat (.inr rfl)
              rw [hx'] at hao
              subst hao
              simp only [Option.map_some, Nat.zero_mul, Nat.sub_zero]
              have e1 : flat els = flat (els.take len) ++ flat (els.drop len) := by rw [← flat_append, List.take_append_drop]
              rw [e1] at hh'
              obtain ⟨v1, v2, l1, l2, hct, rfl, g1, g2⟩ := hh'.split
              have hlen : (els.take len).length = len := by simp; omega
              have hv1 : v1.length = len * sz := by rw [← g1.length, flat_len fun e he => hz' e (List.mem_of_mem_take he), hlen]
              have hct2 : cells.toList.take (len * sz) = v1 := by
                have : (cells.toList.take (els.length * sz)).take (len * sz) = v1 := by rw [hct, ← hv1, List.take_left]
                rw [List.take_take] at this
                rw [Nat.min_eq_left (Nat.mul_le_mul_right _ (by omega))] at this
                exact this
              refine ⟨b1 :: l1, pp ++ q, l2, ⟨?_, hrest, ?_, hbdt, hkeys, fun _ => rfl⟩⟩
              · have key : Rep E (.olst sz (els.take len)) (.slice (some ⟨b1, 0, none⟩) (els.take len).length len) (b1 :: l1) :=
                  .olst hb' hf (Nat.le_trans (Nat.mul_le_mul_right _ (by omega)) hc) (by omega) (by omega) (fun e he => hz' e (List.mem_of_mem_take he)) (by rw [hlen, hct2]; exact g1)
                rw [hlen] at key
                exact key
              · rw [hL]
                simp only [List.cons_append, List.nil_append]
                refine List.perm_iff_count.2 fun y => ?_
                simp only [List.count_append, List.count_cons]
                omega
        · cases h
      case loc id j =>
        simp only [fold] at h
        split at h
        · rename_i e hl
          simp only [Option.map_eq_some_iff] at h
          obtain ⟨r, hr, h⟩ := h
          simp only [Prod.mk.injEq] at h
          obtain ⟨rfl, rfl, rfl⟩ := h
          obtain ⟨pp, lb, q, hL, hbr, hrest⟩ := hb.get hl
          have hkeys : ((delB id b).map (·.1)).Sublist (b.map (·.1)) := by rw [keys_delB]; exact List.erase_sublist
          cases hv with
          | @loc _ _ x b1 hg ho hb1 =>
            cases hbr with
            | @obj _ x' b2 cells ty fr lc hg' ho' hx' hb' hf h1 hh =>
              obtain rfl : x = x' := by rw [hg] at hg'; injection hg'
              obtain rfl : b1 = b2 := by rw [hb1] at hx'; injection hx'
              obtain ⟨l', L', rest, hok⟩ := ih2 _ _ _ _ _ hr hp _ _ _ hh hrest (hkeys.nodup hk)
              have hc1 := hok.c1 h1
              have hre := cells_re (e := e) hok.len hc1
              refine ⟨b1 :: l', L', rest, ⟨.optr hb' hf (by rw [hre]; exact hc1) (by rw [hre]; exact hok.rep), hok.blk, ?_, ?_, hok.keys.trans hkeys, fun _ => rfl⟩⟩
              · rw [hL]
                have := hok.perm
                refine List.perm_iff_count.2 fun y => ?_
                have h2 := List.perm_iff_count.1 this y
                simp only [List.count_append, List.count_cons, List.cons_append, List.nil_append] at h2 ⊢
                omega
              · show Bd 0 (reCells e r.1)
                have hbdl := hok.bd
                have hll := hok.len
                unfold reCells
                split
                · exact hbdl
                · cases hr1 : r.1 with
                  | nil => simp [Bd]
                  | cons c cs => rw [hr1] at hbdl; simp only [BdL] at hbdl; exact hbdl.1
        · cases h
      case mp id =>
        simp only [fold] at h
        split at h
        · rename_i ks vs hl
          obtain ⟨pp, lb, q, hL, hbr, hrest⟩ := hb.get hl
          simp only [Option.some.injEq, Prod.mk.injEq] at h
          obtain ⟨rfl, rfl, rfl⟩ := h
          have hkeys : ((delB id b).map (·.1)).Sublist (b.map (·.1)) := by rw [keys_delB]; exact List.erase_sublist
          cases hv with
          | @mp _ x b1 hg ho hb1 =>
            cases hbr with
            | @map _ _ x' b2 es clock hg' ho' hx' hb' hk' hv' =>
              obtain rfl : x = x' := by rw [hg] at hg'; injection hg'
              obtain rfl : b1 = b2 := by rw [hb1] at hx'; injection hx'
              refine ⟨[b1], pp ++ q, [], ⟨.omp hb' hk' hv', hrest, ?_, hp, hkeys, fun _ => rfl⟩⟩
              rw [hL]
              refine List.perm_iff_count.2 fun y => ?_
              simp only [List.count_append, List.count_cons, List.count_nil, List.cons_append, List.nil_append]
              omega
        · cases h
      case agg cs =>
        simp only [fold, Option.map_eq_some_iff] at h
        obtain ⟨r, hr, h⟩ := h
        simp only [Prod.mk.injEq] at h
        obtain ⟨rfl, rfl, rfl⟩ := h
        cases hv with
        | agg hv =>
          obtain ⟨l', L', rest, hok⟩ := ih2 _ _ _ _ _ hr hp _ _ _ hv hb hk
          exact ⟨l', L', rest, ⟨.agg hok.rep, hok.blk, hok.perm, hok.bd, hok.keys, fun h => by simp [C1] at h⟩⟩
      case tup cs =>
        simp only [fold, Option.map_eq_some_iff] at h
        obtain ⟨r, hr, h⟩ := h
        simp only [Prod.mk.injEq] at h
        obtain ⟨rfl, rfl, rfl⟩ := h
        cases hv with
        | tup hv =>
          obtain ⟨l', L', rest, hok⟩ := ih2 _ _ _ _ _ hr hp _ _ _ hv hb hk
          exact ⟨l', L', rest, ⟨.tup hok.rep, hok.blk, hok.perm, hok.bd, hok.keys, fun h => by simp [C1] at h⟩⟩
      case clo f cs =>
        simp only [fold, Option.map_eq_some_iff] at h
        obtain ⟨r, hr, h⟩ := h
        simp only [Prod.mk.injEq] at h
        obtain ⟨rfl, rfl, rfl⟩ := h
        cases hv with
        | clo hv =>
          obtain ⟨l', L', rest, hok⟩ := ih2 _ _ _ _ _ hr hp _ _ _ hv hb hk
          exact ⟨l', L', rest, ⟨.clo hok.rep, hok.blk, hok.perm, hok.bd, hok.keys, fun _ => rfl⟩⟩
      all_goals (simp only [fold] at h; exact dflt h)
    · intro b v v' b' p h hp cv l L hv hb hk
      cases v with
      | nil =>
        simp only [foldL, Option.some.injEq, Prod.mk.injEq] at h
        obtain ⟨rfl, rfl, rfl⟩ := h
        exact ⟨l, L, [], ⟨hv, hb, by simp, by simp [BdL], List.Sublist.refl _, fun h => h, rfl⟩⟩
      | cons v vs =>
        simp only [foldL, Option.bind_eq_some_iff, Option.map_eq_some_iff] at h
        obtain ⟨x, hx, y, hy, h⟩ := h
        simp only [Prod.mk.injEq] at h
        obtain ⟨rfl, rfl, rfl⟩ := h
        obtain ⟨cv1, cvs, l1, l2, rfl, rfl, h1, h2⟩ := hv.inv
        obtain ⟨l1', L1, rest1, hok1⟩ := ih1 _ _ _ _ _ hx hp.1 _ _ _ h1 hb hk
        obtain ⟨l2', L2, rest2, hok2⟩ := ih2 _ _ _ _ _ hy hp.2 _ _ _ h2 hok1.blk (hok1.keys.nodup hk)
        refine ⟨l1' ++ l2', L2, rest2 ++ rest1, ⟨.cons hok1.rep hok2.rep, hok2.blk, ?_, ?_, hok2.keys.trans hok1.keys, ?_, ?_⟩⟩
        · refine List.perm_iff_count.2 fun z => ?_
          have e1 := List.perm_iff_count.1 hok1.perm z
          have e2 := List.perm_iff_count.1 hok2.perm z
          simp only [List.count_append] at e1 e2 ⊢
          omega
        · simp only [BdL]; exact ⟨hok1.bd, hok2.bd⟩
        · intro h
          simp only [allC1, Bool.and_eq_true] at h ⊢
          exact ⟨hok1.c1 h.1, hok2.c1 h.2⟩
        · simp [hok2.len]
end Go.Ev

/-
Calls: arguments handed over, results taken in.
-/
set_option linter.unusedVariables false
set_option linter.unusedSimpArgs false
namespace Go.Ev
variable {Sp : FuncId → List AV → AV → List AV → Prop} {P : Program} {E : Env} {s : S} {a : Act} {w : World} {L : List Nat} {K : S → AV → Prop}

/-- A part of a row as a list that stands for a time. -/
theorem window_lst (hR : R E s a w L) {b : Mem} {M : List Nat} (hb : Blks E b M) {id sz off len : Nat} {els : List AV} {fr : Bool} (hl : look id b = some (.row sz els fr)) {x : Loc} (hg : E.g id = some x) {ao : Option Addr} {c : Nat}
    (hle : off + len ≤ els.length) (hc : len ≤ c) (hat : 0 < len → ao = x.blk.map fun b => ⟨b, off * x.sz, none⟩) (hno : NoOL ((els.drop off).take len)) {E' : Env} (hx : Ext E E' []) (hst : ∀ b, x.blk = some b → E'.st false b) (hh : E'.h = E.h) :
    Rep E' (.lst false sz (lowL ((els.drop off).take len))) (.slice ao len c) [] := by
  have hlen : ((els.drop off).take len).length = len := by simp; omega
  by_cases hemp : len = 0
  · subst hemp; simp only [List.take_zero, lowL]; exact .lst0 _ _ _ _
  · have main : ∀ {b0 : Nat} {cells : Array Value} {ty : TypeId} {fz : Nat × Nat} {l : List Nat}, x.blk = some b0 → E.h[b0]? = some (.cells cells ty fz) → x.sz = sz → (∀ e ∈ els, okE sz e) → els.length ≤ MX → RepL E (flat els) (cells.toList.take (els.length * sz)) l →
        Rep E' (.lst false sz (lowL ((els.drop off).take len))) (.slice ao len c) [] := by
      intro b0 cells ty fz l hxb hbw hsz hz hm hrep
      have hao := hat (by omega)
      rw [hxb] at hao
      subst hao
      simp only [Option.map_some]
      have hf := flat_drop_take (l := off) (n := len) hz
      have e1 : flat els = (flat els).take (off * sz) ++ (((flat els).drop (off * sz)).take (len * sz) ++ (flat els).drop (off * sz + len * sz)) := by
        rw [← List.drop_drop, List.take_append_drop, List.take_append_drop]
      have hflen := flat_len hz
      rw [e1] at hrep
      obtain ⟨v1, v23, l1, l23, hct, rfl, g1, g23⟩ := hrep.split
      obtain ⟨v2, v3, l2, l3, rfl, rfl, g2, g3⟩ := g23.split
      obtain rfl := noOL g2 (by rw [← hf]; exact noOL_flat hno)
      have hmul : off * sz + len * sz ≤ els.length * sz := by rw [← Nat.add_mul]; exact Nat.mul_le_mul_right _ hle
      have hv1 : v1.length = off * sz := by rw [← g1.length, List.length_take, hflen]; omega
      have hll := lowL_length ((els.drop off).take len)
      have key : Rep E' (.lst false sz (lowL ((els.drop off).take len))) (.slice (some ⟨b0, off * x.sz, none⟩) (lowL ((els.drop off).take len)).length c) [] := by
        refine .lst (cap := c) (vs := v2) (fun h' => by rw [h'] at hll; simp at hll; omega) (by omega) (by omega) (hst b0 hxb) ?_ ?_ ?_
        · intro e he
          obtain ⟨y, hy, rfl⟩ := lowL_mem he
          unfold okE
          rw [cellsOf_low, lowL_length, allC1_lowL]
          exact hz y (List.mem_of_mem_drop (List.mem_of_mem_take hy))
        · rw [hh, hsz]
          exact at_take hbw hct hv1
        · rw [flat_lowL, hf]
          have hsub' : ∀ c, E'.st true c → E'.st false c ∨ True := fun _ _ => .inr trivial
          exact (RepL.low hR.own.sub g2).ext hx
      rw [hll, hlen] at key
      exact key
    obtain ⟨p, l, q, hL, hbr, _⟩ := hb.get hl
    cases hbr with
    | nil => simp at hle; omega
    | @row _ _ x' b0 cells ty fz l hg' ho hx' hn hs hb' hf hc' hl' hm hz h =>
      obtain rfl : x = x' := by rw [hg] at hg'; injection hg'
      exact main hx' hb' hs hz hm h
    | @frz _ _ x' b0 cells ty fz hg' ho hx' hn hs hb' hst' hl' hm hz h =>
      obtain rfl : x = x' := by rw [hg] at hg'; injection hg'
      exact main hx' hb' hs hz hm h

def lentE (E : Env) (lent M : List Nat) : Env := { E with st := fun fl b => E.st fl b ∨ fl = false ∧ lent ≠ [] ∧ b ∈ M }
theorem lentE_ext (hs : ∀ b, E.st true b → E.st false b) (lent M : List Nat) (l : List Nat) : Ext E (lentE E lent M) l :=
  ⟨fun _ _ => rfl, fun _ _ h => .inl h, hs, fun id x h => ⟨x, h, .inl rfl⟩⟩
theorem lentE_mono (hs : ∀ b, E.st true b → E.st false b) {l1 l2 M : List Nat} (h : l1 ≠ [] → l2 ≠ []) (l : List Nat) : Ext (lentE E l1 M) (lentE E l2 M) l :=
  ⟨fun _ _ => rfl, fun fl b hb => hb.imp (fun h => h) fun ⟨h1, h2, h3⟩ => ⟨h1, h h2, h3⟩, fun b hb => (by
    rcases hb with hb | ⟨hb, _⟩
    · exact .inl (hs b hb)
    · cases hb), fun id x h => ⟨x, h, .inl rfl⟩⟩
theorem ne_left {l1 l2 : List Nat} (h : l1 ≠ []) : l1 ++ l2 ≠ [] := by cases l1 <;> simp_all
theorem ne_right {l1 l2 : List Nat} (h : l2 ≠ []) : l1 ++ l2 ≠ [] := by cases l2 <;> simp_all

theorem bd_low : ∀ (v : AV), Bd 0 v → Bd 0 (low v) := by
  intro v
  refine AV.rec (motive_1 := fun v => Bd 0 v → Bd 0 (low v)) (motive_2 := fun vs => BdL 0 vs → BdL 0 (lowL vs)) ?_ ?_ ?_ ?_ ?_ ?_ ?_ ?_ ?_ ?_ ?_ ?_ ?_ ?_ ?_ ?_ ?_ ?_ ?_ ?_ ?_ ?_ ?_ v <;> intros <;> simp_all [low, lowL, Bd, BdL]
theorem bdL_low {els : List AV} (h : BdL 0 els) : BdL 0 (lowL els) := by
  refine bdL_of fun v hv => ?_
  obtain ⟨e, he, rfl⟩ := lowL_mem hv
  exact bd_low e (bdL_mem h e he)

theorem blk_in {M : List Nat} {b : Mem} (hb : Blks E b M) (hs : ∀ b, E.st true b → E.st false b) {id sz : Nat} {els : List AV} {fr : Bool} (hl : look id b = some (.row sz els fr)) {x : Loc} (hg : E.g id = some x) {lent : List Nat} (hne : lent ≠ []) :
    (∀ c, x.blk = some c → (lentE E lent M).st false c) ∧ x.n = els.length ∧ els.length ≤ x.cap := by
  obtain ⟨p, l, q, hL, hbr, _⟩ := hb.get hl
  cases hbr with
  | nil hg' ho hx hc hn hz =>
    rw [hg] at hg'; injection hg' with hg'; subst hg'
    exact ⟨(fun c h => by rw [hx] at h; cases h), by simpa using hn, by simp⟩
  | row hg' ho hx hn hs' hb' hf hc hl' =>
    rw [hg] at hg'; injection hg' with hg'; subst hg'
    refine ⟨fun c h => ?_, hn, hl'⟩
    rw [hx] at h; injection h with h; subst h
    exact .inr ⟨rfl, hne, by rw [hL]; simp⟩
  | frz hg' ho hx hn hs' hb' hst hl' =>
    rw [hg] at hg'; injection hg' with hg'; subst hg'
    refine ⟨fun c h => ?_, hn, hl'⟩
    rw [hx] at h; injection h with h; subst h
    exact .inl (hs _ hst)

theorem at_drop {h : Array Obj} {b : Nat} {cells : Array Value} {ty : TypeId} {fr : Nat × Nat} (hb : h[b]? = some (.cells cells ty fr)) {v1 v2 : List Value} {j : Nat} (hc : cells.toList = v1 ++ v2) (hj : v2 ≠ [] → v1.length = j) : At h b j v2 := by
  intro k v hk
  have hne : v2 ≠ [] := by rintro rfl; simp at hk
  unfold cellAt
  rw [hb]
  show cells[j + k]? = some v
  rw [← Array.getElem?_toList, hc, ← hj hne, List.getElem?_append_right (by omega), Nat.add_sub_cancel_left]
  exact hk

theorem rep_fz (hs : ∀ b, E.st true b → E.st false b) {M : List Nat} {e : AV} {j b1 : Nat} {cells : Array Value} {ty : TypeId} {fr : Nat × Nat} {lc : List Nat} (hb : E.h[b1]? = some (.cells cells ty fr)) (hm : b1 ∈ M) (hrep : RepL E (cellsOf e) cells.toList lc)
    (hlc : ∀ c ∈ lc, c ∈ M) {ids : List Nat} {i : Nat} {cs' : List AV} (hok : ∀ cv l, RepL E ((cellsOf e).drop j) cv l → (∀ c ∈ l, c ∈ M) → RepL (lentE E ids M) cs' cv [] ∧ BdL 0 cs') :
    Rep (lentE E (i :: ids) M) (.fz cs') (.pointer (some ⟨b1, j, none⟩)) [] ∧ Bd 0 (.fz cs') := by
  have e1 : cellsOf e = (cellsOf e).take j ++ (cellsOf e).drop j := (List.take_append_drop j _).symm
  rw [e1] at hrep
  obtain ⟨v1, v2, l1, l2, hc, rfl, g1, g2⟩ := hrep.split
  obtain ⟨h1, h2⟩ := hok v2 l2 g2 fun c hc => hlc c (by simp [hc])
  refine ⟨.fz (vs := v2) (.inr ⟨rfl, by simp, hm⟩) (at_drop hb hc fun hne => ?_) (h1.ext (lentE_mono hs (fun _ => by simp) _)), by simpa [Bd] using h2⟩
  have hl1 := g1.length
  have hl2 := g2.length
  rw [List.length_take] at hl1
  rw [List.length_drop] at hl2
  have : 0 < v2.length := List.length_pos_iff.2 hne
  omega

theorem lend_ok_both (hR : R E s a w L) {b : Mem} {M : List Nat} (hb : Blks E b M) : ∀ k,
    (∀ v v' ids p, lend k b v = some (v', ids, p) → p → ∀ cv l, Rep E v cv l → (∀ c ∈ l, c ∈ M) → Rep (lentE E ids M) v' cv [] ∧ Bd 0 v') ∧
    (∀ v v' ids p, lendL k b v = some (v', ids, p) → p → ∀ cv l, RepL E v cv l → (∀ c ∈ l, c ∈ M) → RepL (lentE E ids M) v' cv [] ∧ BdL 0 v')
  | 0 => ⟨fun v v' ids p h => by simp [lend] at h, fun v v' ids p h => by simp [lendL] at h⟩
  | k + 1 => by
    obtain ⟨ih1, ih2⟩ := lend_ok_both hR hb k
    have hs := hR.own.sub
    constructor
    · intro v v' ids p h hp cv l hv hl
      have dflt : some (v, ([] : List Nat), Bd 0 v ∧ NoO v) = some (v', ids, p) → Rep (lentE E ids M) v' cv [] ∧ Bd 0 v' := by
        intro h
        simp only [Option.some.injEq, Prod.mk.injEq] at h
        obtain ⟨rfl, rfl, rfl⟩ := h
        have := noO_both hv hp.2
        subst this
        exact ⟨hv.ext (lentE_ext hs _ _ _), hp.1⟩
      cases v <;> simp only [lend] at h
      case row id n off len =>
        obtain ⟨r, hr, h⟩ := Option.map_eq_some_iff.1 h
        simp only [Prod.mk.injEq] at h
        obtain ⟨rfl, rfl, rfl⟩ := h
        obtain ⟨hn, hle, hbd, hno⟩ := hp
        have hlk := rowAt_look hr
        cases hv with
        | @row _ _ _ _ x _ hg ho hn' hv' hh =>
          obtain ⟨h1, h2, h3⟩ := blk_in hb hs hlk hg (lent := [id]) (by simp)
          obtain ⟨ao, rfl, hat⟩ := hh (by omega)
          exact ⟨window_lst hR hb hlk hg (by omega) (by omega) (fun _ => hat (.inl (by omega))) hno (lentE_ext hs _ _ _) h1 rfl, bdL_low (bdL_of fun v hv => bdL_mem hbd v (List.mem_of_mem_drop (List.mem_of_mem_take hv)))⟩
      case rowc id n off len =>
        obtain ⟨r, hr, h⟩ := Option.map_eq_some_iff.1 h
        simp only [Prod.mk.injEq] at h
        obtain ⟨rfl, rfl, rfl⟩ := h
        obtain ⟨hn, hle, hbd, hno⟩ := hp
        have hlk := rowAt_look hr
        cases hv with
        | @rowc _ _ _ _ x _ hg ho hn' hv' hh =>
          obtain ⟨h1, h2, h3⟩ := blk_in hb hs hlk hg (lent := [id]) (by simp)
          obtain ⟨ao, rfl, hat⟩ := hh (by omega)
          exact ⟨window_lst hR hb hlk hg (by omega) (Nat.le_refl _) (fun h => hat (.inl h)) hno (lentE_ext hs _ _ _) h1 rfl, bdL_low (bdL_of fun v hv => bdL_mem hbd v (List.mem_of_mem_drop (List.mem_of_mem_take hv)))⟩
      case loc id j =>
        obtain ⟨e, he, h⟩ := Option.bind_eq_some_iff.1 h
        obtain ⟨r, hr, h⟩ := Option.map_eq_some_iff.1 h
        simp only [Prod.mk.injEq] at h
        obtain ⟨rfl, rfl, rfl⟩ := h
        obtain ⟨blk, hlk, hobj⟩ := Option.bind_eq_some_iff.1 he
        cases blk <;> simp [getObj] at hobj
        subst hobj
        obtain ⟨pp, lb, q, hL, hbr, hrest⟩ := hb.get hlk
        cases hv with
        | @loc _ _ x b1 hg ho hb1 =>
          cases hbr with
          | @obj _ x' b2 cells ty fr lc hg' ho' hx' hb' hf h1 hh =>
            obtain rfl : x = x' := by rw [hg] at hg'; injection hg'
            obtain rfl : b1 = b2 := by rw [hb1] at hx'; injection hx'
            exact rep_fz hs hb' (by rw [hL]; simp) hh (fun c hc => by rw [hL]; simp [hc]) fun cv l h1 h2 => ih2 _ _ _ _ hr hp cv l h1 h2
      case optr e j =>
        obtain ⟨r, hr, h⟩ := Option.map_eq_some_iff.1 h
        simp only [Prod.mk.injEq] at h
        obtain ⟨rfl, rfl, rfl⟩ := h
        cases hv with
        | @optr _ _ b1 cells ty fr lc hb' hf h1 hh =>
          exact rep_fz hs hb' (hl _ (by simp)) hh (fun c hc => hl c (by simp [hc])) fun cv l h1 h2 => ih2 _ _ _ _ hr hp cv l h1 h2
      case olst sz els =>
        simp only [Option.some.injEq, Prod.mk.injEq] at h
        obtain ⟨rfl, rfl, rfl⟩ := h
        obtain ⟨hbd, hno⟩ := hp
        refine ⟨?_, by simpa [Bd] using bdL_low hbd⟩
        cases hv with
        | olst0 => exact .lst0 _ _ _ _
        | @olst _ _ b1 cap cells ty fr lc hb' hf hc hlen hm hz hh =>
          have hlc := noOL hh (noOL_flat hno)
          subst hlc
          have hll := lowL_length els
          by_cases hemp : els = []
          · subst hemp; exact .lst0 _ _ _ _
          · have key : Rep (lentE E (els.map fun _ => 0) M) (.lst false sz (lowL els)) (.slice (some ⟨b1, 0, none⟩) (lowL els).length cap) [] := by
              refine .lst (cap := cap) (vs := cells.toList.take (els.length * sz)) (fun h' => hemp (List.eq_nil_of_length_eq_zero (by rw [← hll, h']; rfl))) (by omega) (by omega) (.inr ⟨rfl, by simpa using hemp, hl _ (by simp)⟩) ?_ (fun j v hj => ?_) ?_
              · intro e he
                obtain ⟨y, hy, rfl⟩ := lowL_mem he
                unfold okE
                rw [cellsOf_low, lowL_length, allC1_lowL]
                exact hz y hy
              · show cellAt E.h b1 (0 + j) = some v
                unfold cellAt
                rw [hb', Nat.zero_add]
                rw [List.getElem?_take] at hj
                split at hj
                · show cells[j]? = some v; rw [← Array.getElem?_toList]; exact hj
                · cases hj
              · rw [flat_lowL]
                exact (RepL.low hs hh).ext (lentE_ext hs _ _ _)
            rw [hll] at key
            exact key
      case agg cs =>
        obtain ⟨r, hr, h⟩ := Option.map_eq_some_iff.1 h
        simp only [Prod.mk.injEq] at h
        obtain ⟨rfl, rfl, rfl⟩ := h
        cases hv with
        | agg hv => obtain ⟨h1, h2⟩ := ih2 _ _ _ _ hr hp _ _ hv hl; exact ⟨.agg h1, by simpa [Bd] using h2⟩
      case clo f cs =>
        obtain ⟨r, hr, h⟩ := Option.map_eq_some_iff.1 h
        simp only [Prod.mk.injEq] at h
        obtain ⟨rfl, rfl, rfl⟩ := h
        cases hv with
        | clo hv => obtain ⟨h1, h2⟩ := ih2 _ _ _ _ hr hp _ _ hv hl; exact ⟨.clo h1, by simpa [Bd] using h2⟩
      all_goals exact dflt h
    · intro v v' ids p h hp cv l hv hl
      cases v with
      | nil =>
        simp only [lendL, Option.some.injEq, Prod.mk.injEq] at h
        obtain ⟨rfl, rfl, rfl⟩ := h
        cases hv
        exact ⟨.nil, by simp [BdL]⟩
      | cons v vs =>
        simp only [lendL, Option.bind_eq_some_iff, Option.map_eq_some_iff] at h
        obtain ⟨x, hx, y, hy, h⟩ := h
        simp only [Prod.mk.injEq] at h
        obtain ⟨rfl, rfl, rfl⟩ := h
        obtain ⟨cv1, cvs, l1, l2, rfl, rfl, h1, h2⟩ := hv.inv
        obtain ⟨g1, g2⟩ := ih1 _ _ _ _ hx hp.1 _ _ h1 fun c hc => hl c (by simp [hc])
        obtain ⟨g3, g4⟩ := ih2 _ _ _ _ hy hp.2 _ _ h2 fun c hc => hl c (by simp [hc])
        exact ⟨.cons (l := []) (m := []) (g1.ext (lentE_mono hs ne_left _)) (g3.ext (lentE_mono hs ne_right _)), by simp only [BdL]; exact ⟨g2, g4⟩⟩

/-- The arguments behind giveL: those that are given are closed by themselves. -/
inductive Mix (E : Env) : List Bool → List AV → List Value → List Nat → Prop where
  | nil (gm : List Bool) : Mix E gm [] [] []
  | give {g : List Bool} {v : AV} {cv : Value} {l m : List Nat} {vs : List AV} {cvs : List Value} (h : Rep E v cv l) (hb : Bd 0 v) (t : Mix E g vs cvs m) : Mix E (true :: g) (v :: vs) (cv :: cvs) (l ++ m)
  | keep {g : List Bool} {v : AV} {cv : Value} {m : List Nat} {vs : List AV} {cvs : List Value} (h : Rep E v cv []) (t : Mix E g vs cvs m) : Mix E (false :: g) (v :: vs) (cv :: cvs) m
  | rest {v : AV} {cv : Value} {m : List Nat} {vs : List AV} {cvs : List Value} (h : Rep E v cv []) (t : Mix E [] vs cvs m) : Mix E [] (v :: vs) (cv :: cvs) m

structure GiveOk (E : Env) (gm : List Bool) (vs' : List AV) (cvs : List Value) (b b' : Mem) (L lp Lr rest : List Nat) : Prop where
  rep : Mix E gm vs' cvs lp
  blk : Blks E b' Lr
  perm : (lp ++ (Lr ++ rest)).Perm L
  keys : (b'.map (·.1)).Sublist (b.map (·.1))

theorem giveL_ok : ∀ {gm : List Bool} {vs vs' : List AV} {b b' : Mem} {M : List Nat} {p : Prop} {cvs : List Value}, RepL E vs cvs [] → Blks E b M → (b.map (·.1)).Nodup → giveL gm b vs = some (vs', b', p) → p →
    ∃ lp Lr rest, GiveOk E gm vs' cvs b b' M lp Lr rest
  | gm, [], vs', b, b', M, p, cvs, hv, hb, hk, h, hp => by
    cases hv
    have h : some (([] : List AV), b, True) = some (vs', b', p) := by
      cases gm with
      | nil => simpa [giveL] using h
      | cons g gm => cases g <;> simpa [giveL] using h
    simp only [Option.some.injEq, Prod.mk.injEq] at h
    obtain ⟨rfl, rfl, rfl⟩ := h
    exact ⟨[], M, [], ⟨.nil _, hb, by simp, List.Sublist.refl _⟩⟩
  | [], v :: vs, vs', b, b', M, p, cvs, hv, hb, hk, h, hp => by
    obtain ⟨cv1, cvs', l1, l2, rfl, hl, h1, h2⟩ := hv.inv
    obtain ⟨rfl, rfl⟩ : l1 = [] ∧ l2 = [] := by simpa using hl.symm
    simp only [giveL, Option.map_eq_some_iff] at h
    obtain ⟨y, hy, h⟩ := h
    simp only [Prod.mk.injEq] at h
    obtain ⟨rfl, rfl, rfl⟩ := h
    obtain ⟨lp, Lr, rest, hok⟩ := giveL_ok (vs' := y.1) (b' := y.2.1) (p := y.2.2) h2 hb hk hy hp
    exact ⟨lp, Lr, rest, ⟨.rest h1 hok.rep, hok.blk, hok.perm, hok.keys⟩⟩
  | false :: gm, v :: vs, vs', b, b', M, p, cvs, hv, hb, hk, h, hp => by
    obtain ⟨cv1, cvs', l1, l2, rfl, hl, h1, h2⟩ := hv.inv
    obtain ⟨rfl, rfl⟩ : l1 = [] ∧ l2 = [] := by simpa using hl.symm
    simp only [giveL, Option.map_eq_some_iff] at h
    obtain ⟨y, hy, h⟩ := h
    simp only [Prod.mk.injEq] at h
    obtain ⟨rfl, rfl, rfl⟩ := h
    obtain ⟨lp, Lr, rest, hok⟩ := giveL_ok (vs' := y.1) (b' := y.2.1) (p := y.2.2) h2 hb hk hy hp
    exact ⟨lp, Lr, rest, ⟨.keep h1 hok.rep, hok.blk, hok.perm, hok.keys⟩⟩
  | true :: gm, v :: vs, vs', b, b', M, p, cvs, hv, hb, hk, h, hp => by
    obtain ⟨cv1, cvs', l1, l2, rfl, hl, h1, h2⟩ := hv.inv
    obtain ⟨rfl, rfl⟩ : l1 = [] ∧ l2 = [] := by simpa using hl.symm
    simp only [giveL, Option.bind_eq_some_iff, Option.map_eq_some_iff] at h
    obtain ⟨x, hx, y, hy, h⟩ := h
    simp only [Prod.mk.injEq] at h
    obtain ⟨rfl, rfl, rfl⟩ := h
    obtain ⟨lp1, Lr1, rest1, hok1⟩ := (fold_ok_both (E := E) 30).1 b v x.1 x.2.1 x.2.2 hx hp.1 cv1 [] M h1 hb hk
    obtain ⟨lp2, Lr2, rest2, hok⟩ := giveL_ok (vs' := y.1) (b' := y.2.1) (p := y.2.2) h2 hok1.blk (hok1.keys.nodup hk) hy hp.2
    refine ⟨lp1 ++ lp2, Lr2, rest2 ++ rest1, ⟨.give hok1.rep hok1.bd hok.rep, hok.blk, ?_, hok.keys.trans hok1.keys⟩⟩
    refine List.perm_iff_count.2 fun z => ?_
    have e1 := List.perm_iff_count.1 hok1.perm z
    have e2 := List.perm_iff_count.1 hok.perm z
    simp only [List.count_append, List.count_nil] at e1 e2 ⊢
    omega

theorem lendA_ok (hR : R E s a w L) {b : Mem} {M : List Nat} (hb : Blks E b M) {gm : List Bool} {vs : List AV} {cvs : List Value} {l : List Nat} (hv : Mix E gm vs cvs l) :
    ∀ {vs' : List AV} {ids : List Nat} {p : Prop}, lendA gm b vs = some (vs', ids, p) → p → RepL (lentE E ids M) vs' cvs l ∧ BdL 0 vs' := by
  have hs := hR.own.sub
  induction hv with
  | nil gm =>
    intro vs' ids p h hp
    have h : some (([] : List AV), ([] : List Nat), True) = some (vs', ids, p) := by
      cases gm with
      | nil => simpa [lendA] using h
      | cons g gm => cases g <;> simpa [lendA] using h
    simp only [Option.some.injEq, Prod.mk.injEq] at h
    obtain ⟨rfl, rfl, rfl⟩ := h
    exact ⟨.nil, by simp [BdL]⟩
  | give h1 hbd t ih =>
    intro vs' ids p h hp
    simp only [lendA, Option.map_eq_some_iff] at h
    obtain ⟨y, hy, h⟩ := h
    simp only [Prod.mk.injEq] at h
    obtain ⟨rfl, rfl, rfl⟩ := h
    obtain ⟨g1, g2⟩ := ih (vs' := y.1) (ids := y.2.1) (p := y.2.2) hy hp
    exact ⟨.cons (h1.ext (lentE_ext hs _ _ _)) g1, by simp only [BdL]; exact ⟨hbd, g2⟩⟩
  | keep h1 t ih =>
    intro vs' ids p h hp
    simp only [lendA, Option.bind_eq_some_iff, Option.map_eq_some_iff] at h
    obtain ⟨x, hx, y, hy, h⟩ := h
    simp only [Prod.mk.injEq] at h
    obtain ⟨rfl, rfl, rfl⟩ := h
    obtain ⟨g1, g2⟩ := ih (vs' := y.1) (ids := y.2.1) (p := y.2.2) hy hp.2
    obtain ⟨g3, g4⟩ := (lend_ok_both hR hb 30).1 _ x.1 x.2.1 x.2.2 hx hp.1 _ [] h1 (fun c hc => by cases hc)
    exact ⟨.cons (l := []) (g3.ext (lentE_mono hs ne_left _)) (g1.ext (lentE_mono hs ne_right _)), by simp only [BdL]; exact ⟨g4, g2⟩⟩
  | rest h1 t ih =>
    intro vs' ids p h hp
    simp only [lendA, Option.bind_eq_some_iff, Option.map_eq_some_iff] at h
    obtain ⟨x, hx, y, hy, h⟩ := h
    simp only [Prod.mk.injEq] at h
    obtain ⟨rfl, rfl, rfl⟩ := h
    obtain ⟨g1, g2⟩ := ih (vs' := y.1) (ids := y.2.1) (p := y.2.2) hy hp.2
    obtain ⟨g3, g4⟩ := (lend_ok_both hR hb 30).1 _ x.1 x.2.1 x.2.2 hx hp.1 _ [] h1 (fun c hc => by cases hc)
    exact ⟨.cons (l := []) (g3.ext (lentE_mono hs ne_left _)) (g1.ext (lentE_mono hs ne_right _)), by simp only [BdL]; exact ⟨g4, g2⟩⟩
end Go.Ev

/-
A function's specification, and calls under it.
-/
set_option linter.unusedVariables false
set_option linter.unusedSimpArgs false
namespace Go.Ev
variable {P : Program} {E : Env} {s : S} {a : Act} {w : World} {L : List Nat} {K : S → AV → Prop}

def bare (h : Array Obj) (st : Bool → Nat → Prop) : Env := { h := h, st := st, g := fun _ => none }

structure Grow (w : World) (st : Bool → Nat → Prop) (L : List Nat) (w' : World) (st' : Bool → Nat → Prop) (L' : List Nat) : Prop where
  size : w.heap.size ≤ w'.heap.size
  keep : ∀ b, b < w.heap.size → b ∉ L → w'.heap[b]? = w.heap[b]?
  stM : ∀ fl b, st fl b → st' fl b
  stF : ∀ b, st' false b → st false b ∨ st' true b
  stN : ∀ fl b, st' fl b → st fl b ∨ b ∈ L ∨ w.heap.size ≤ b
  new : ∀ b ∈ L', b ∈ L ∨ w.heap.size ≤ b
  os : w'.os = w.os
  tape : w'.tape = w.tape
  output : w'.output = w.output

def Post (w : World) (st : Bool → Nat → Prop) (vs : Array Value) (L : List Nat) (res : AV) (outs : List AV) (e : Ending) (w' : World) : Prop :=
  ∃ v st' L', e = .returned v ∧ RepL (bare w'.heap st') (res :: outs) (v :: vs.toList) L' ∧ Own (bare w'.heap st') L' ∧ Grow w st L w' st' L'

def Enter (P : Program) (f : FuncId) : Prop := ∃ fn, P.funcs[f]? = some fn ∧ (fn.name == "runtime.NumGoroutine") = false ∧ fn.body.isNone = false

/-- Package variables that may be read: they hold one value each, and nobody writes them. -/
def gok (P : Program) (k : Nat) : Bool := match P.globals[k]? with
  | some g => g.name == "strconv.ErrSyntax" || g.name == "strconv.ErrRange"
  | none => false
/-- A package variable of a whole number; a table of twenty. -/
def gmx (P : Program) (k : Nat) : Bool := match P.globals[k]? with
  | some g => match P.underlying g.type with
    | some (.int .i64) => true
    | _ => false
  | none => false
def gtb (P : Program) (k : Nat) : Bool := match P.globals[k]? with
  | some g => match P.underlying g.type with
    | some (.array 20 e) => match P.underlying e with
      | some (.int .u64) => true
      | _ => false
    | _ => false
  | none => false
def tens : List Value := (List.range 20).map fun i => Value.int .u64 ((10 ^ i : Nat) : Int)
structure Gk (P : Program) (E : Env) : Prop where
  var : ∀ k, gok P k = true → E.st false k ∧ ∃ c, cellAt E.h k 0 = some c ∧ (c = .nilIface ∨ ∃ t p, c = .iface t p)
  max : ∀ k, gmx P k = true → E.st false k ∧ ∃ m, cellAt E.h k 0 = some (.int .i64 m)
  tab : ∀ k, gtb P k = true → E.st false k ∧ ∃ cs ty fr, E.h[k]? = some (.cells cs ty fr) ∧ cs.toList = tens
theorem Gk.of {P : Program} {E E' : Env} (h : Gk P E) (hs : ∀ b, E.st false b → E'.st false b) (hh : ∀ b, E.st false b → E'.h[b]? = E.h[b]?) : Gk P E' := by
  refine ⟨fun k hk => ?_, fun k hk => ?_, fun k hk => ?_⟩
  · obtain ⟨h1, c, h2, h3⟩ := h.var k hk
    refine ⟨hs k h1, c, ?_, h3⟩
    unfold cellAt at h2 ⊢
    rw [hh k h1]; exact h2
  · obtain ⟨h1, c, h2⟩ := h.max k hk
    refine ⟨hs k h1, c, ?_⟩
    unfold cellAt at h2 ⊢
    rw [hh k h1]; exact h2
  · obtain ⟨h1, cs, ty, fr, h2, h3⟩ := h.tab k hk
    exact ⟨hs k h1, cs, ty, fr, by rw [hh k h1]; exact h2, h3⟩
theorem Gk.ext {P : Program} {E E' : Env} {l : List Nat} (h : Gk P E) (x : Ext E E' l) : Gk P E' := h.of (fun b => x.st false b) fun b hb => x.heap b (.inl hb)
/-- Called with values that these arguments stand for, the function returns the result; what its arguments hold behind the call stands in outs. -/
def Spec (P : Program) (f : FuncId) (targs : List AV) (res : AV) (outs : List AV) : Prop := Enter P f ∧
  ∀ (w : World) (st : Bool → Nat → Prop) (vs : Array Value) (L : List Nat), RepL (bare w.heap st) targs vs.toList L → Own (bare w.heap st) L → Gk P (bare w.heap st) → Calls P f vs w (Post w st vs L res outs)

theorem RepL.base {h : Array Obj} {st : Bool → Nat → Prop} {g : Nat → Option Loc} {as : List AV} {vs : List Value} {l : List Nat} (hr : RepL { h := h, st := st, g := g } as vs l) (hb : BdL 0 as) : RepL (bare h st) as vs l :=
  RepL.rebase (E := { h := h, st := st, g := g }) (E' := bare h st) rfl rfl (fun _ h => absurd h (Nat.not_lt_zero _)) hr hb
theorem ext_bare {h : Array Obj} {st : Bool → Nat → Prop} {E : Env} {l : List Nat} (hh : ∀ b, st false b ∨ b ∈ l → E.h[b]? = h[b]?) (hst : ∀ fl b, st fl b → E.st fl b) (hs : ∀ b, st true b → st false b) : Ext (bare h st) E l :=
  ⟨hh, hst, hs, fun id x hx => by cases hx⟩

/-- What comes back goes to its places. -/
structure BackOk (E : Env) (b b' : Mem) (l L L' : List Nat) (ids : List Nat) : Prop where
  blk : Blks E b' L'
  sub : ∀ c ∈ L', c ∈ l ++ L
  nodup : (l ++ L).Nodup → L'.Nodup
  keys : (b.map (·.1)).Nodup → (b'.map (·.1)).Nodup
  kk : ∀ k ∈ b'.map (·.1), k ∈ b.map (·.1) ∨ k ∈ ids

def idOf : AV → List Nat
  | .loc id _ => [id]
  | _ => []
def idsOf : AV → List Nat
  | .clo _ cs => cs.flatMap idOf
  | v => idOf v

theorem back1_ok {E0 : Env} {b : Mem} {v o : AV} {cv : Value} {l L : List Nat} (hv : Rep E0 v cv []) (hg : ∀ id x, E0.g id = some x → E.g id = some x) (ho : Rep E o cv l) (hb : Blks E b L) (hid : ∀ id ∈ idOf v, id ∉ b.map (·.1)) :
    ∃ L', BackOk E b (back1 b v o) l L L' (idOf v) := by
  have same : ∃ L', BackOk E b b l L L' (idOf v) := ⟨L, hb, fun c hc => List.mem_append_right _ hc, fun h => (List.nodup_append.1 h).2.1, fun h => h, fun k hk => .inl hk⟩
  unfold back1
  split
  · rename_i id j e j'
    split
    · rename_i hj
      subst hj
      cases hv with
      | @loc _ _ x b0 hg0 hob hx =>
        cases ho with
        | @optr _ _ b1 cells ty fr l h1 h2 h3 h4 =>
          have hblk : BlkRep E id (.obj e) (b0 :: l) := .obj (x := x) (hg _ _ hg0) hob hx h1 h2 h3 h4
          refine ⟨(b0 :: l) ++ L, .cons hblk hb, fun c hc => hc, fun h => h, fun h => ?_, fun k hk => ?_⟩
          · simp only [List.map_cons, List.nodup_cons]; exact ⟨hid id (by simp [idOf]), h⟩
          · simp only [List.map_cons, List.mem_cons] at hk
            rcases hk with rfl | hk
            · exact .inr (by simp [idOf])
            · exact .inl hk
    · exact same
  · exact same

theorem BackOk.step {b b1 b2 : Mem} {l m L L1 L2 i1 i2 : List Nat} (h1 : BackOk E b b1 l L L1 i1) (h2 : BackOk E b1 b2 m L1 L2 i2) : BackOk E b b2 (l ++ m) L L2 (i1 ++ i2) where
  blk := h2.blk
  sub c hc := by
    rcases List.mem_append.1 (h2.sub c hc) with h | h
    · simp [h]
    · rcases List.mem_append.1 (h1.sub c h) with h | h <;> simp [h]
  nodup h := by
    have hp : (l ++ m ++ L).Perm (m ++ (l ++ L)) := by
      refine List.perm_iff_count.2 fun z => ?_
      simp only [List.count_append]; omega
    have h' := hp.nodup_iff.1 h
    have hl : (l ++ L).Nodup := (List.nodup_append.1 h').2.1
    refine h2.nodup ?_
    rw [List.nodup_append]
    refine ⟨(List.nodup_append.1 h').1, h1.nodup hl, fun c hc d hd e => ?_⟩
    subst e
    exact (List.nodup_append.1 h').2.2 c hc c (h1.sub c hd) rfl
  keys h := h2.keys (h1.keys h)
  kk k hk := by
    rcases h2.kk k hk with h | h
    · rcases h1.kk k h with h | h
      · exact .inl h
      · exact .inr (by simp [h])
    · exact .inr (by simp [h])

theorem backC_ok {E0 : Env} (hg : ∀ id x, E0.g id = some x → E.g id = some x) : ∀ {vs os : List AV} {cvs : List Value} {b : Mem} {l L : List Nat}, RepL E0 vs cvs [] → RepL E os cvs l → Blks E b L → (∀ id ∈ vs.flatMap idOf, id ∉ b.map (·.1)) → (vs.flatMap idOf).Nodup →
    ∃ L', BackOk E b (backC b vs os) l L L' (vs.flatMap idOf)
  | [], os, cvs, b, l, L, hv, ho, hb, _, _ => by
    refine ⟨L, ?_⟩
    have : backC b [] os = b := by cases os <;> rfl
    rw [this]
    exact ⟨hb, fun c hc => List.mem_append_right _ hc, fun h => (List.nodup_append.1 h).2.1, fun h => h, fun k hk => .inl hk⟩
  | v :: vs, os, cvs, b, l, L, hv, ho, hb, hid, hnd => by
    obtain ⟨cv, cvs', l1, l2, rfl, hl, h1, h2⟩ := hv.inv
    obtain ⟨rfl, rfl⟩ : l1 = [] ∧ l2 = [] := by simpa using hl.symm
    cases os with
    | nil => cases ho
    | cons o os =>
      obtain ⟨cv', cvs'', m1, m2, e, rfl, g1, g2⟩ := ho.inv
      injection e with e1 e2
      subst e1 e2
      simp only [List.flatMap_cons] at hid hnd ⊢
      obtain ⟨L1, hb1⟩ := back1_ok h1 hg g1 hb fun id h => hid id (by simp [h])
      obtain ⟨L2, hb2⟩ := backC_ok hg h2 g2 hb1.blk (fun id h hm => by
        rcases hb1.kk id hm with hm | hm
        · exact hid id (by simp [h]) hm
        · exact (List.nodup_append.1 hnd).2.2 id hm id h rfl) (List.nodup_append.1 hnd).2.1
      exact ⟨L2, by simpa [backC] using hb1.step hb2⟩

theorem back_ok {E0 : Env} {b : Mem} {v o : AV} {cv : Value} {l L : List Nat} (hv : Rep E0 v cv []) (hg : ∀ id x, E0.g id = some x → E.g id = some x) (ho : Rep E o cv l) (hb : Blks E b L) (hid : ∀ id ∈ idsOf v, id ∉ b.map (·.1)) (hnd : (idsOf v).Nodup) :
    ∃ L', BackOk E b (back b v o) l L L' (idsOf v) := by
  by_cases hc : ∃ f cs f' os, v = .clo f cs ∧ o = .clo f' os
  · obtain ⟨f, cs, f', os, rfl, rfl⟩ := hc
    cases hv with
    | clo hv =>
      cases ho with
      | clo ho => exact backC_ok hg hv ho hb hid hnd
  · have h1 : back b v o = back1 b v o := by
      unfold back
      split
      · exact absurd ⟨_, _, _, _, rfl, rfl⟩ hc
      · rfl
    rw [h1]
    obtain ⟨L', h⟩ := back1_ok hv hg ho hb (fun id h => hid id (by cases v <;> first | exact h | (simp [idOf] at h)))
    refine ⟨L', h.blk, h.sub, h.nodup, h.keys, fun k hk => ?_⟩
    rcases h.kk k hk with h | h
    · exact .inl h
    · exact .inr (by cases v <;> first | exact h | (simp [idOf] at h))

def idsG : List Bool → List AV → List Nat
  | true :: g, v :: r => idsOf v ++ idsG g r
  | false :: g, _ :: r => idsG g r
  | _, _ => []

theorem BackOk.more {b b' : Mem} {l m L L' ids : List Nat} (h : BackOk E b b' l L L' ids) : BackOk E b b' (m ++ l) L L' ids where
  blk := h.blk
  sub c hc := by rcases List.mem_append.1 (h.sub c hc) with h | h <;> simp [h]
  nodup hn := h.nodup (by rw [List.append_assoc] at hn; exact (List.nodup_append.1 hn).2.1)
  keys := h.keys
  kk := h.kk

theorem backG_ok {E0 E1 : Env} (hg : ∀ id x, E0.g id = some x → E.g id = some x) {z : Prop} (conv : ∀ o cv l, (z ∨ NoF o) → Rep E1 o cv l → Rep E o cv l) : ∀ {gm : List Bool} {vs os : List AV} {cvs : List Value} {b : Mem} {l L : List Nat}, RepL E0 vs cvs [] → RepL E1 os cvs l → (z ∨ noFG gm os) → Blks E b L →
    (∀ id ∈ idsG gm vs, id ∉ b.map (·.1)) → (idsG gm vs).Nodup → ∃ L', BackOk E b (backG gm b vs os) l L L' (idsG gm vs) := by
  intro gm vs
  induction vs generalizing gm with
  | nil =>
    intro os cvs b l L hv ho hz hb _ _
    have h1 : backG gm b [] os = b := by cases gm with
      | nil => rfl
      | cons g gm => cases g <;> rfl
    have h2 : idsG gm [] = [] := by cases gm with
      | nil => rfl
      | cons g gm => cases g <;> rfl
    rw [h1, h2]
    exact ⟨L, hb, fun c hc => List.mem_append_right _ hc, fun h => (List.nodup_append.1 h).2.1, fun h => h, fun k hk => .inl hk⟩
  | cons v vs ih =>
    intro os cvs b l L hv ho hz hb hid hnd
    obtain ⟨cv, cvs', l1, l2, rfl, hl, h1, h2⟩ := hv.inv
    obtain ⟨rfl, rfl⟩ : l1 = [] ∧ l2 = [] := by simpa using hl.symm
    cases os with
    | nil => cases ho
    | cons o os =>
      obtain ⟨cv', cvs'', m1, m2, e, rfl, g1, g2⟩ := ho.inv
      injection e with e1 e2
      subst e1 e2
      cases gm with
      | nil => exact ⟨L, hb, fun c hc => List.mem_append_right _ hc, fun h => (List.nodup_append.1 h).2.1, fun h => h, fun k hk => .inl hk⟩
      | cons g gm =>
        cases g with
        | false =>
          obtain ⟨L2, hb2⟩ := ih (gm := gm) h2 g2 (hz.imp (fun h => h) fun h => h) hb hid hnd
          exact ⟨L2, hb2.more⟩
        | true =>
          simp only [idsG] at hid hnd ⊢
          obtain ⟨L1, hb1⟩ := back_ok h1 hg (conv _ _ _ (hz.imp (fun h => h) fun h => h.1) g1) hb (fun id h => hid id (by simp [h])) (List.nodup_append.1 hnd).1
          obtain ⟨L2, hb2⟩ := ih (gm := gm) h2 g2 (hz.imp (fun h => h) fun h => h.2) hb1.blk (fun id h hm => by
            rcases hb1.kk id hm with hm | hm
            · exact hid id (by simp [h]) hm
            · exact (List.nodup_append.1 hnd).2.2 id hm id h rfl) (List.nodup_append.1 hnd).2.1
          exact ⟨L2, by simpa [backG] using hb1.step hb2⟩
end Go.Ev

/-
A call: entered with its arguments, left with its result and what it left in memory.
-/
set_option linter.unusedVariables false
set_option linter.unusedSimpArgs false
namespace Go.Ev
variable {Sp : FuncId → List AV → AV → List AV → Prop} {P : Program} {E : Env} {s : S} {a : Act} {w : World} {L : List Nat} {K : S → AV → Prop}

theorem fold_keys : ∀ k, (∀ b v v' b' p, fold k b v = some (v', b', p) → (b'.map (·.1)).Sublist (b.map (·.1))) ∧ (∀ b v v' b' p, foldL k b v = some (v', b', p) → (b'.map (·.1)).Sublist (b.map (·.1)))
  | 0 => ⟨fun b v v' b' p h => by simp [fold] at h, fun b v v' b' p h => by simp [foldL] at h⟩
  | k + 1 => by
    obtain ⟨ih1, ih2⟩ := fold_keys k
    have hdel : ∀ id (b : Mem), ((delB id b).map (·.1)).Sublist (b.map (·.1)) := fun id b => by rw [keys_delB]; exact List.erase_sublist
    constructor
    · intro b v v' b' p h
      have dflt : ∀ {v0 : AV} {q : Prop}, some (v0, b, q) = some (v', b', p) → (b'.map (·.1)).Sublist (b.map (·.1)) := fun h => by
        simp only [Option.some.injEq, Prod.mk.injEq] at h; obtain ⟨_, rfl, _⟩ := h; exact List.Sublist.refl _
      have ddel : ∀ {v0 : AV} {q : Prop} {id : Nat}, some (v0, delB id b, q) = some (v', b', p) → (b'.map (·.1)).Sublist (b.map (·.1)) := fun h => by
        simp only [Option.some.injEq, Prod.mk.injEq] at h; obtain ⟨_, rfl, _⟩ := h; exact hdel _ _
      have dmap : ∀ {b0 : Mem} {cs : List AV} {f : List AV → AV}, (foldL k b0 cs).map (fun r => (f r.1, r.2.1, r.2.2)) = some (v', b', p) → (b0.map (·.1)).Sublist (b.map (·.1)) → (b'.map (·.1)).Sublist (b.map (·.1)) := fun h h0 => by
        obtain ⟨r, hr, h⟩ := Option.map_eq_some_iff.1 h
        simp only [Prod.mk.injEq] at h
        obtain ⟨_, rfl, _⟩ := h
        exact (ih2 _ _ _ _ _ hr).trans h0
      cases v <;> simp only [fold] at h
      case row id n off len =>
        split at h
        · exact dflt h
        · exact ddel h
        · cases h
      case rowc id n off len =>
        split at h
        · exact ddel h
        · cases h
      case loc id j =>
        split at h
        · rename_i e hl; exact dmap (f := fun r => .optr (reCells e r) j) h (hdel _ _)
        · cases h
      case mp id =>
        split at h
        · exact ddel h
        · cases h
      case agg cs => exact dmap (f := .agg) h (List.Sublist.refl _)
      case tup cs => exact dmap (f := .tup) h (List.Sublist.refl _)
      case clo f cs => exact dmap (f := .clo f) h (List.Sublist.refl _)
      all_goals exact dflt h
    · intro b v v' b' p h
      cases v with
      | nil => simp only [foldL, Option.some.injEq, Prod.mk.injEq] at h; obtain ⟨_, rfl, _⟩ := h; exact List.Sublist.refl _
      | cons v vs =>
        simp only [foldL, Option.bind_eq_some_iff, Option.map_eq_some_iff] at h
        obtain ⟨x, hx, y, hy, h⟩ := h
        simp only [Prod.mk.injEq] at h
        obtain ⟨_, rfl, _⟩ := h
        exact (ih2 _ _ _ _ _ hy).trans (ih1 _ _ _ _ _ hx)

def Gone (b b' : Mem) (ids : List Nat) : Prop := ids.Nodup ∧ (∀ id ∈ ids, id ∈ b.map (·.1) ∧ id ∉ b'.map (·.1)) ∧ (b'.map (·.1)).Sublist (b.map (·.1))
theorem Gone.nil {b b' : Mem} (h : (b'.map (·.1)).Sublist (b.map (·.1))) : Gone b b' [] := ⟨List.nodup_nil, (fun _ hh => by cases hh), h⟩
theorem Gone.step {b b1 b2 : Mem} {i1 i2 : List Nat} (h1 : Gone b b1 i1) (h2 : Gone b1 b2 i2) : Gone b b2 (i1 ++ i2) := by
  refine ⟨?_, fun id hid => ?_, h2.2.2.trans h1.2.2⟩
  · rw [List.nodup_append]
    refine ⟨h1.1, h2.1, fun x hx y hy e => ?_⟩
    subst e
    exact (h1.2.1 x hx).2 (h2.2.1 x hy).1
  · rcases List.mem_append.1 hid with h | h
    · exact ⟨(h1.2.1 id h).1, fun hm => (h1.2.1 id h).2 (h2.2.2.subset hm)⟩
    · exact ⟨h1.2.2.subset (h2.2.1 id h).1, (h2.2.1 id h).2⟩

theorem fold_gone {k : Nat} {b b' : Mem} {v v' : AV} {p : Prop} (h : fold k b v = some (v', b', p)) (hk : (b.map (·.1)).Nodup) : Gone b b' (idOf v) := by
  have hs := (fold_keys k).1 _ _ _ _ _ h
  cases v <;> first | exact Gone.nil hs | skip
  rename_i id j
  cases k with
  | zero => simp [fold] at h
  | succ k =>
    simp only [fold] at h
    split at h
    · rename_i e hl
      obtain ⟨r, hr, h⟩ := Option.map_eq_some_iff.1 h
      simp only [Prod.mk.injEq] at h
      obtain ⟨_, rfl, _⟩ := h
      refine ⟨by simp [idOf], fun i hi => ?_, hs⟩
      obtain rfl : i = id := by simpa [idOf] using hi
      refine ⟨look_mem hl, fun hm => ?_⟩
      have := ((fold_keys k).2 _ _ _ _ _ hr).subset hm
      rw [keys_delB] at this
      exact (List.Nodup.not_mem_erase hk) this
    · cases h
theorem foldL_gone : ∀ {k : Nat} {vs : List AV} {b b' : Mem} {v' : List AV} {p : Prop}, foldL k b vs = some (v', b', p) → (b.map (·.1)).Nodup → Gone b b' (vs.flatMap idOf)
  | 0, _, _, _, _, _, h, _ => by simp [foldL] at h
  | k + 1, [], b, b', v', p, h, hk => Gone.nil ((fold_keys (k + 1)).2 _ _ _ _ _ h)
  | k + 1, v :: vs, b, b', v', p, h, hk => by
    simp only [foldL, Option.bind_eq_some_iff, Option.map_eq_some_iff] at h
    obtain ⟨x, hx, y, hy, h⟩ := h
    simp only [Prod.mk.injEq] at h
    obtain ⟨_, rfl, _⟩ := h
    have h1 := fold_gone hx hk
    exact h1.step (foldL_gone hy (h1.2.2.nodup hk))
theorem fold_goneS {b b' : Mem} {v v' : AV} {p : Prop} (h : fold 30 b v = some (v', b', p)) (hk : (b.map (·.1)).Nodup) : Gone b b' (idsOf v) := by
  cases v <;> first | exact fold_gone h hk | skip
  rename_i f cs
  simp only [fold] at h
  obtain ⟨q, hq, e⟩ := Option.map_eq_some_iff.1 h
  simp only [Prod.mk.injEq] at e
  obtain ⟨_, rfl, _⟩ := e
  exact foldL_gone (v' := q.1) (b' := q.2.1) (p := q.2.2) hq hk
theorem giveL_gone : ∀ {gm : List Bool} {vs vs' : List AV} {b b' : Mem} {p : Prop}, giveL gm b vs = some (vs', b', p) → (b.map (·.1)).Nodup → Gone b b' (idsG gm vs)
  | gm, [], vs', b, b', p, h, hk => by
    have h : some (([] : List AV), b, True) = some (vs', b', p) := by
      cases gm with
      | nil => simpa [giveL] using h
      | cons g gm => cases g <;> simpa [giveL] using h
    simp only [Option.some.injEq, Prod.mk.injEq] at h
    obtain ⟨_, rfl, _⟩ := h
    have h2 : idsG gm [] = [] := by cases gm with
      | nil => rfl
      | cons g gm => cases g <;> rfl
    rw [h2]
    exact Gone.nil (List.Sublist.refl _)
  | [], v :: vs, vs', b, b', p, h, hk => by
    simp only [giveL, Option.map_eq_some_iff] at h
    obtain ⟨y, hy, h⟩ := h
    simp only [Prod.mk.injEq] at h
    obtain ⟨_, rfl, _⟩ := h
    have := giveL_gone (vs' := y.1) (b' := y.2.1) (p := y.2.2) hy hk
    have h2 : idsG [] vs = [] := by cases vs <;> rfl
    rw [h2] at this
    exact this
  | false :: gm, v :: vs, vs', b, b', p, h, hk => by
    simp only [giveL, Option.map_eq_some_iff] at h
    obtain ⟨y, hy, h⟩ := h
    simp only [Prod.mk.injEq] at h
    obtain ⟨_, rfl, _⟩ := h
    exact giveL_gone (gm := gm) (vs := vs) (vs' := y.1) (b' := y.2.1) (p := y.2.2) hy hk
  | true :: gm, v :: vs, vs', b, b', p, h, hk => by
    simp only [giveL, Option.bind_eq_some_iff, Option.map_eq_some_iff] at h
    obtain ⟨x, hx, y, hy, h⟩ := h
    simp only [Prod.mk.injEq] at h
    obtain ⟨_, rfl, _⟩ := h
    have h1 := fold_goneS (v' := x.1) (b' := x.2.1) (p := x.2.2) hx hk
    exact h1.step (giveL_gone (vs' := y.1) (b' := y.2.1) (p := y.2.2) hy (h1.2.2.nodup hk))

/-- What a call came to. -/
def DidC (P : Program) (E : Env) (a : Act) (w : World) (L : List Nat) (K : S → AV → Prop) (r : Result Next) : Prop :=
  ∃ g args, r = .ok (.enter g args) w ∧ Calls P g args w fun e w' => ∃ cv, e = .returned cv ∧ ∃ s' v E' L', K s' v ∧ R E' s' a w' L' ∧ Move E w L E' w' L' ∧ Rep E' v cv []

theorem frzM_ok : ∀ {fm : List Bool} {vs : List AV} {cvs : List Value} {E : Env} {s : S} {L : List Nat}, R E s a w L → RepL E vs cvs [] → (frzM fm s.b vs).2.2 →
    ∃ E' L', R E' { s with b := (frzM fm s.b vs).2.1 } a w L' ∧ Move E w L E' w L' ∧ RepL E' (frzM fm s.b vs).1 cvs [] ∧ (∀ u cu, Rep E u cu [] → Rep E' u cu [])
  | fm, [], _, E, s, L, hR, hv, _ => by
    cases hv
    have h2 : frzM fm s.b [] = ([], s.b, True) := by cases fm with
      | nil => rfl
      | cons x _ => cases x <;> rfl
    rw [h2]
    exact ⟨E, L, hR, .refl hR, .nil, fun _ _ h => h⟩
  | [], v :: vs, cvs, E, s, L, hR, hv, h => ⟨E, L, hR, .refl hR, hv, fun _ _ h => h⟩
  | true :: fm, v :: vs, cvs, E, s, L, hR, hv, h => by
    obtain ⟨cv, cvs', l1, l2, rfl, hl, h1, h2⟩ := hv.inv
    obtain ⟨rfl, rfl⟩ : l1 = [] ∧ l2 = [] := by simpa using hl.symm
    simp only [frzM] at h ⊢
    obtain ⟨E1, L1, hR1, hm1, hr1, hk1⟩ := frz1_ok hR h1 h.1
    have h2' : RepL E1 vs cvs' [] := h2.ext hm1.ext
    obtain ⟨E2, L2, hR2, hm2, hr2, hk2⟩ := frzM_ok hR1 h2' h.2
    refine ⟨E2, L2, hR2, hm1.trans hm2 ?_ hR1.own.off, .cons (l := []) (m := []) (hk2 _ _ hr1) hr2, fun u cu hu => hk2 _ _ (hk1 _ _ hu)⟩
    intro fl b hb; rw [← hR.heap]; exact hR.own.stlt fl b hb
  | false :: fm, v :: vs, cvs, E, s, L, hR, hv, h => by
    obtain ⟨cv, cvs', l1, l2, rfl, hl, h1, h2⟩ := hv.inv
    obtain ⟨rfl, rfl⟩ : l1 = [] ∧ l2 = [] := by simpa using hl.symm
    simp only [frzM] at h ⊢
    obtain ⟨E2, L2, hR2, hm2, hr2, hk2⟩ := frzM_ok hR h2 h
    exact ⟨E2, L2, hR2, hm2, .cons (l := []) (m := []) (hk2 _ _ h1) hr2, hk2⟩
theorem pre_ok {s s' : S} {args args' : List AV} (h : PreC s args s' args') : ∀ {E : Env} {L : List Nat} {cvs : List Value}, R E s a w L → RepL E args cvs [] →
    ∃ E' L', R E' s' a w L' ∧ Move E w L E' w L' ∧ RepL E' args' cvs [] := by
  induction h with
  | refl s args => exact fun hR hv => ⟨_, _, hR, .refl hR, hv⟩
  | drop t h => exact fun hR hv => ⟨_, _, ⟨hR.heap, hR.m, fun k v hk => hR.tmp k v (h k v hk), hR.blk, hR.keys, hR.own, hR.gn, hR.defers⟩, .refl hR, hv⟩
  | frz fm h =>
    intro E L cvs hR hv
    obtain ⟨E', L', h1, h2, h3, _⟩ := frzM_ok hR hv h
    exact ⟨E', L', h1, h2, h3⟩
  | trans _ _ ih1 ih2 =>
    intro E L cvs hR hv
    obtain ⟨E1, L1, h1, h2, h3⟩ := ih1 hR hv
    obtain ⟨E2, L2, h4, h5, h6⟩ := ih2 h1 h3
    refine ⟨E2, L2, h4, h2.trans h5 ?_ h1.own.off, h6⟩
    intro fl b hb; rw [← hR.heap]; exact hR.own.stlt fl b hb
theorem call_core (hSp : ∀ f t r o, Sp f t r o → Spec P f t r o) (hG : Gk P E) (hR : R E s a w L) {g : FuncId} {args : List AV} {cargs : Array Value} (hall : RepL E args cargs.toList []) {gm : List Bool} (h : callW Sp s g args gm K) :
    Enter P g ∧ Calls P g cargs w fun e w' => ∃ cv, e = .returned cv ∧ ∃ s' v E' L', K s' v ∧ R E' s' a w' L' ∧ Move E w L E' w' L' ∧ Rep E' v cv [] := by
      obtain ⟨⟨gv, pb, gp⟩, hgive, h⟩ := okP_of h
      obtain ⟨⟨pv, lent, pp⟩, hpass, hneed1, hneed2, res, outs, hsp, hno, hK⟩ := okP_of h
      simp only at hgive hpass hneed1 hneed2 hno hK hsp
      obtain ⟨⟨fn, hfn, hname, hbody⟩, hspec⟩ := hSp _ _ _ _ hsp
      have hh : E.h = w.heap := hR.heap
      obtain ⟨lp, Lr, rest, hok⟩ := giveL_ok hall hR.blk hR.keys hgive hneed1
      obtain ⟨hlrep, hlbd⟩ := lendA_ok hR hok.blk hok.rep hpass hneed2
      have hgone := giveL_gone hgive hR.keys
      have hndL : (lp ++ (Lr ++ rest)).Nodup := hok.perm.nodup_iff.2 hR.own.nodup
      have hlpL : ∀ b ∈ lp, b ∈ L := fun b hb => hok.perm.mem_iff.1 (by simp [hb])
      have hLrL : ∀ b ∈ Lr, b ∈ L := fun b hb => hok.perm.mem_iff.1 (by simp [hb])
      have hdis : ∀ b ∈ lp, b ∉ Lr := fun b hb hb' => (List.nodup_append.1 hndL).2.2 b hb b (by simp [hb']) rfl
      have hltL : ∀ b ∈ L, b < w.heap.size := fun b hb => by rw [← hh]; exact hR.own.lt b hb
      let st1 : Bool → Nat → Prop := (lentE E lent Lr).st
      have hst1lt : ∀ fl b, st1 fl b → b < w.heap.size := by
        intro fl b hb
        rcases hb with hb | ⟨_, _, hb⟩
        · rw [← hh]; exact hR.own.stlt _ _ hb
        · exact hltL b (hLrL b hb)
      have hst1T : ∀ b, st1 true b → E.st true b := fun b hb => by
        rcases hb with hb | ⟨hb, _⟩
        · exact hb
        · cases hb
      have hrep1 : RepL (bare w.heap st1) pv cargs.toList lp := by
        have h1 := hlrep
        have : lentE E lent Lr = { h := w.heap, st := st1, g := E.g } := by simp [lentE, hh, st1]
        rw [this] at h1
        exact h1.base hlbd
      have hown1 : Own (bare w.heap st1) lp := by
        refine ⟨(List.nodup_append.1 hndL).1, fun b hb => hltL b (hlpL b hb), fun b hb hs => ?_, hst1lt, fun b hb => .inl (hR.own.sub b (hst1T b hb))⟩
        rcases hs with hs | ⟨_, _, hs⟩
        · exact hR.own.off b (hlpL b hb) hs
        · exact hdis b hb hs
      refine ⟨⟨fn, hfn, hname, hbody⟩, ?_⟩
      · refine (hspec w st1 cargs lp hrep1 hown1 (hG.of (fun b hb => .inl hb) fun b _ => by rw [hh]; rfl)).mono fun e w' hpost => ?_
        obtain ⟨v, st', L', rfl, hrep', hown', hgrow⟩ := hpost
        refine ⟨v, rfl, ?_⟩
        let st2 : Bool → Nat → Prop := fun fl b => E.st fl b ∨ st' true b
        let E2 : Env := { h := w'.heap, st := st2, g := E.g }
        have hsub2 : ∀ b, st2 true b → st2 false b := fun b hb => hb.imp (hR.own.sub b) id
        have hext : ∀ l : List Nat, (∀ b ∈ l, b ∉ lp ∧ b < w.heap.size) → Ext E E2 l := fun l hl =>
          ⟨fun b hb => by
            rw [hh]
            rcases hb with hb | hb
            · exact hgrow.keep b (by rw [← hh]; exact hR.own.stlt _ _ hb) fun hm => hR.own.off b (hlpL b hm) hb
            · exact hgrow.keep b (hl b hb).2 (hl b hb).1,
          fun fl b hb => .inl hb, hR.own.sub, fun id x hx => ⟨x, hx, .inl rfl⟩⟩
        have hblk2 : Blks E2 pb Lr := hok.blk.ext (hext Lr fun b hb => ⟨fun hm => hdis b hm hb, hltL b (hLrL b hb)⟩) fun _ _ => rfl
        have conv : ∀ o cv l, (lent = [] ∨ NoF o) → Rep (bare w'.heap st') o cv l → Rep E2 o cv l := by
          intro o cv l hz hrep'
          have h2 : Rep (bare w'.heap st2) o cv l := by
            rcases hz with hno | hno
            · refine hrep'.ext ⟨fun _ _ => rfl, fun fl b hb => ?_, hown'.sub, fun id x hx => by cases hx⟩
              cases fl with
              | true => exact .inr hb
              | false =>
                rcases hgrow.stF b hb with h | h
                · rcases h with h | ⟨_, h, _⟩
                  · exact .inl h
                  · exact absurd hno h
                · exact .inr h
            · exact Rep.firm (E := bare w'.heap st') (E' := bare w'.heap st2) rfl (fun b hb => .inr hb) rfl hrep' hno
          exact h2.ext ⟨fun _ _ => rfl, fun _ _ h => h, hsub2, fun id x hx => by cases hx⟩
        obtain ⟨cv', cvs', lr, lo, e, rfl, hres, houts⟩ := hrep'.inv
        injection e with e1 e2
        subst e1 e2
        have hres := conv _ _ _ (hno.imp (fun h => h) fun h => h.1) hres
        have hndlrlo := hown'.nodup
        obtain ⟨L2, hback⟩ := backG_ok (E := E2) (E0 := E) (E1 := bare w'.heap st') (z := lent = []) (b := pb) (gm := gm) (fun id x hx => hx) conv hall houts (hno.imp (fun h => h) fun h => h.2) hblk2 (fun id hid => (hgone.2.1 id hid).2) hgone.1
        have hkeys2 := hback.keys (hok.keys.nodup hR.keys)
        have hlt2 : ∀ k ∈ (backG gm pb args outs).map (·.1), k < s.n := by
          intro k hk
          rcases hback.kk k hk with h | h
          · exact hR.keysLt k (hok.keys.subset h)
          · exact hR.keysLt k (hgone.2.1 k h).1
        obtain ⟨g', L3, hunf⟩ := unf_ok (E := E2) hsub2 res v _ s.n lr L2 hres hback.blk hR.gn hkeys2 hlt2
        have hL2 : ∀ b ∈ L2, b ∈ lo ++ Lr := hback.sub
        have hL3 : ∀ b ∈ L3, b ∈ lr ++ lo ∨ b ∈ Lr := fun b hb => by
          rcases List.mem_append.1 (hunf.perm.mem_iff.1 hb) with h | h
          · exact .inl (by simp [h])
          · rcases List.mem_append.1 (hL2 b h) with h | h
            · exact .inl (by simp [h])
            · exact .inr h
        have hdis2 : ∀ b ∈ lr ++ lo, b ∉ Lr := fun b hb hb' => by
          rcases hgrow.new b hb with h | h
          · exact hdis b h hb'
          · have := hltL b (hLrL b hb'); omega
        have hnd : (lr ++ (lo ++ Lr)).Nodup := by
          rw [← List.append_assoc, List.nodup_append]
          exact ⟨hndlrlo, (List.nodup_append.1 (List.nodup_append.1 hndL).2.1).1, fun x hx y hy e => hdis2 x hx (e ▸ hy)⟩
        have hndL2 : L2.Nodup := hback.nodup (List.nodup_append.1 hnd).2.1
        have hndL3 : L3.Nodup := by
          refine hunf.perm.nodup_iff.2 ?_
          rw [List.nodup_append]
          exact ⟨(List.nodup_append.1 hndlrlo).1, hndL2, fun x hx y hy e => (List.nodup_append.1 hnd).2.2 x hx y (hL2 y hy) e⟩
        have hst2N : ∀ fl b, st2 fl b → E.st fl b ∨ b ∈ lp ∨ w.heap.size ≤ b := by
          intro fl b hb
          rcases hb with hb | hb
          · exact .inl hb
          · rcases hgrow.stN true b hb with h | h
            · have := hst1T b h
              cases fl with
              | true => exact .inl this
              | false => exact .inl (hR.own.sub b this)
            · exact .inr h
        have hown3 : Own { E2 with g := g' } L3 := by
          refine ⟨hndL3, fun b hb => ?_, fun b hb hs => ?_, fun fl b hb => ?_, hsub2⟩
          · rcases hL3 b hb with h | h
            · exact hown'.lt b h
            · exact Nat.lt_of_lt_of_le (hltL b (hLrL b h)) hgrow.size
          · rcases hL3 b hb with h | h
            · have h1 := hown'.off b h
              rcases hs with hs | hs
              · exact h1 (hgrow.stM false b (.inl hs))
              · exact h1 (hown'.sub b hs)
            · rcases hst2N false b hs with h1 | h1 | h1
              · exact hR.own.off b (hLrL b h) h1
              · exact hdis b h1 h
              · have := hltL b (hLrL b h); omega
          · rcases hb with hb | hb
            · exact Nat.lt_of_lt_of_le (by rw [← hh]; exact hR.own.stlt _ _ hb) hgrow.size
            · exact hown'.stlt _ _ hb
        have hext3 : Ext E { E2 with g := g' } [] := ⟨(hext [] fun _ h => by cases h).heap, fun _ _ h => .inl h, hR.own.sub, fun id x hx => ⟨x, hunf.old id x hx, .inl rfl⟩⟩
        refine ⟨_, _, { E2 with g := g' }, L3, hK, ⟨rfl, hR.m, fun k u hk => (hR.tmp k u hk).ext hext3, hunf.blk, hunf.keys, hown3, hunf.gn, hR.defers⟩, ⟨hext3, rfl, hgrow.size, fun b hb hn => hgrow.keep b hb fun hm => hn (hlpL b hm), fun fl b hb => ?_, fun b hb => ?_, hown3, hgrow.os, hgrow.tape, hgrow.output, fun b hb => hb.imp id .inr⟩, hunf.rep⟩
        · rcases hst2N fl b hb with h | h | h
          · exact .inl h
          · exact .inr (.inl (hlpL b h))
          · exact .inr (.inr h)
        · rcases hL3 b hb with h | h
          · rcases hgrow.new b h with h | h
            · exact .inl (hlpL b h)
            · exact .inr h
          · exact .inl (hLrL b h)
theorem call_did (hSp : ∀ f t r o, Sp f t r o → Spec P f t r o) (hG : Gk P E) (hR : R E s a w L) {f : AV} {vs : List AV} {cf : Value} {cvs : Array Value} (hf : Rep E f cf []) (hvs : RepL E vs cvs.toList []) (h : outW Sp (callO s f vs) K) :
    DidC P E a w L K ((do let d ← Deferred.ofValue cf cvs; invoke d.target d.args : Sem Next).run P w) := by
  cases f
  case clo g caps =>
    cases hf with
    | @clo _ _ ccaps _ hcaps =>
      simp only [callO] at h
      obtain ⟨s1, args1, hpre, gm, h⟩ := h
      have hall : RepL E (vs ++ caps) (cvs ++ ccaps).toList [] := by
        have := hvs.append hcaps
        simpa using this
      obtain ⟨E1, L1, hR1, hM1, hall1⟩ := pre_ok hpre hR hall
      obtain ⟨⟨fn, hfn, hname, hbody⟩, hc⟩ := call_core hSp (hG.ext hM1.ext) hR1 hall1 h
      refine ⟨g, cvs ++ ccaps, ?_, ?_⟩
      · have hsz : #[] ++ cvs = cvs := by simp
        simp only [Deferred.ofValue, Sem.run_bind, Sem.run_pure, Result.andThen_ok, invoke, callFunc, program, Sem.run, hfn, hname, hbody, Array.empty_append]
        simp [Sem.run_bind, Sem.run_pure, Result.andThen_ok, hfn, hname, hbody]
      · refine hc.mono fun e w' ⟨cv, he, s', v, E', L', h1, h2, h3, h4⟩ => ⟨cv, he, s', v, E', L', h1, h2, hM1.trans h3 ?_ hR1.own.off, h4⟩
        intro fl b hb; rw [← hR.heap]; exact hR.own.stlt fl b hb
  all_goals exact h.elim
end Go.Ev

/-
Elements of a row that are written over: append ahead of a row's end, copy, clear.
-/
set_option linter.unusedVariables false
set_option linter.unusedSimpArgs false
namespace Go.Ev
variable {Sp : FuncId → List AV → AV → List AV → Prop} {P : Program} {E : Env} {s : S} {a : Act} {w : World} {L : List Nat} {K : S → AV → Prop}

theorem setB_same {id : Nat} : ∀ {b : Mem} {blk : Blk}, look id b = some blk → setB id blk b = b
  | [], _, h => by simp [look] at h
  | (k, u) :: r, blk, h => by
    simp only [look] at h
    simp only [setB]
    split at h
    · rename_i hk; injection h with h; subst h; simp only [hk, if_true]
    · rename_i hk; rw [if_neg hk, setB_same h]
theorem flat_app (a b : List AV) : flat (a ++ b) = flat a ++ flat b := by simp [flat]
theorem noOL_drop {els : List AV} {k : Nat} (h : NoOL els) : NoOL (els.drop k) := noOL_iff.2 fun v hv => noOL_iff.1 h v (List.mem_of_mem_drop hv)
theorem noOL_take {els : List AV} {k : Nat} (h : NoOL els) : NoOL (els.take k) := noOL_iff.2 fun v hv => noOL_iff.1 h v (List.mem_of_mem_take hv)

theorem mid_take {α : Type} {C N : List α} {o m : Nat} (h1 : o + N.length ≤ m) (h2 : m ≤ C.length) : (C.take o ++ (N ++ C.drop (o + N.length))).take m = (C.take m).take o ++ N ++ (C.take m).drop (o + N.length) := by
  have g1 : (C.take o).length = o := by rw [List.length_take]; omega
  rw [List.take_append, g1, List.take_append, List.take_of_length_le (l := C.take o) (by omega), List.take_of_length_le (l := N) (by omega), List.take_take, Nat.min_eq_left (by omega), List.drop_take, List.append_assoc, Nat.sub_sub]
/-- Some elements of an own row are written over. -/
theorem over_move (hR : R E s a w L) {id sz off : Nat} {els : List AV} (hlook : look id s.b = some (.row sz els false)) {x : Loc} (hg : E.g id = some x) {xs : List AV} {news : List Value} (hrn : RepL E (flat xs) news []) (hz : ∀ e ∈ xs, okE sz e)
    (hle : off + xs.length ≤ els.length) (hno : NoOL els) (hxs : 0 < xs.length) (hpos : 0 < sz) :
    ∃ b cells ty fz, x.blk = some b ∧ w.heap[b]? = some (.cells cells ty fz) ∧ openB fz cells.size ∧ off * sz + news.length ≤ cells.size ∧ news.length = xs.length * sz ∧ (∀ u ∈ news, u.oneCell' = true) ∧
      ∃ E' L', R E' { s with b := setB id (.row sz (els.take off ++ xs ++ els.drop (off + xs.length)) false) s.b } a (w.setCells b (off * sz) news) L' ∧ Move E w L E' (w.setCells b (off * sz) news) L' := by
  obtain ⟨pp, l, q, hL, hb, hset⟩ := hR.blk.set hlook hR.keys
  have hnl : news.length = xs.length * sz := by rw [← hrn.length, flat_len hz]
  have hn1 := cellsL_one hrn (allC1_flat hz)
  cases hb with
  | nil =>
    have : xs.length = 0 := by have : ([] : List AV).length = 0 := rfl; omega
    omega
  | @row _ _ y b cells ty fz l hg' ho hx hn hs hb' hf hc hl hm hz' hh =>
    obtain rfl : x = y := by rw [hg] at hg'; injection hg'
    have hbw : w.heap[b]? = some (.cells cells ty fz) := by rw [← hR.heap]; exact hb'
    have hmul : off * sz + xs.length * sz ≤ els.length * sz := by rw [← Nat.add_mul]; exact Nat.mul_le_mul_right _ hle
    have hcl : els.length * sz ≤ cells.size := Nat.le_trans (Nat.mul_le_mul_right _ hl) hc
    have hfit : off * sz + news.length ≤ cells.size := by rw [hnl]; omega
    have hnoE := hno
    have hno := noOL_flat hno
    obtain rfl := noOL hh hno
    have hcs : cells.toList.length = cells.size := by simp
    have htl : (cells.toList.take (els.length * sz)).length = els.length * sz := by
      rw [List.length_take, hcs]; omega
    have hfl := flat_len hz'
    have t1 : flat (els.take off) = (flat els).take (off * sz) := by have := flat_drop_take (l := 0) (n := off) hz'; simpa using this
    have t2 : flat (els.drop (off + xs.length)) = (flat els).drop ((off + xs.length) * sz) := by
      have := flat_drop_take (l := off + xs.length) (n := els.length) hz'
      rw [List.take_of_length_le (by simp)] at this
      rw [this, List.take_of_length_le]
      rw [List.length_drop, hfl]; omega
    refine ⟨b, cells, ty, fz, hx, hbw, hf, hfit, hnl, hn1, ?_⟩
    obtain ⟨E', L', hr, hmv⟩ := store_core hR (blk' := .row sz (els.take off ++ xs ++ els.drop (off + xs.length)) false) hL hset hbw (o := off * sz) (vs := news) hfit (l' := []) (List.Sublist.refl _) (fun cells' k1 k2 k3 hext => by
      have hlen : (els.take off ++ xs ++ els.drop (off + xs.length)).length = els.length := by simp; omega
      refine .row (x := x) hg ho hx (by rw [hlen]; exact hn) hs k1 (by rw [k3]; exact hf) (by rw [k3]; exact hc) (by rw [hlen]; exact hl) (by rw [hlen]; exact hm) (fun e he => ?_) ?_
      · rcases List.mem_append.1 he with he | he
        · rcases List.mem_append.1 he with he | he
          · exact hz' e (List.mem_of_mem_take he)
          · exact hz e he
        · exact hz' e (List.mem_of_mem_drop he)
      · rw [hlen, k2, flat_app, flat_app, t1, t2]
        have f1 : (cells.toList.take (off * sz) ++ (news ++ cells.toList.drop (off * sz + news.length))).take (els.length * sz) =
            (cells.toList.take (els.length * sz)).take (off * sz) ++ news ++ (cells.toList.take (els.length * sz)).drop ((off + xs.length) * sz) := by
          have h1 := mid_take (C := cells.toList) (N := news) (o := off * sz) (m := els.length * sz) (by omega) (by omega)
          rw [hnl, ← Nat.add_mul] at h1
          rw [hnl, ← Nat.add_mul]
          exact h1
        rw [f1]
        have hh' := hh.ext (hext [] (by simp))
        have hp := (hh'.take (off * sz)).append (hrn.ext (hext [] (by simp)))
        have := hp.append (hh'.drop ((off + xs.length) * sz))
        simpa using this)
    exact ⟨E', L', hr, hmv⟩

/-- What is written, out of a source. -/
theorem src_news {cy : Value} {sz : Nat} {xs : List AV} (h : Src E w cy sz xs) (hne : xs ≠ []) : ∃ ad cap news, cy = .slice (some ad) xs.length cap ∧ (∀ j v, news[j]? = some v → w.cell? (ad.add j) = some v) ∧ RepL E (flat xs) news [] := by
  obtain ⟨ao, cap, rfl, hh⟩ := h.is
  obtain ⟨ad, vs, rfl, h1, h2⟩ := hh hne
  exact ⟨ad, cap, vs, rfl, h1, h2⟩

theorem append_none {t ty e : TypeId} (hu : P.underlying t = some (.slice e)) (hi : (P.info? e).isSome) {ao yo : Option Addr} {len cap yc : Nat} (hle : len ≤ cap) :
    (Builtin.append_ #[t, t] ty #[.slice ao len cap, .slice yo 0 yc]).run P w = .ok (.slice ao len cap) w := by
  obtain ⟨i, hi⟩ := Option.isSome_iff_exists.1 hi
  have h1 : len + 0 ≤ cap := hle
  have hl0 : ∀ (x : Addr), (loadCells x 0).run P w = .ok #[] w := fun x => by simpa using run_loadCells_list (P := P) w x [] (by simp)
  cases yo <;> cases ao <;> simp [Builtin.append_, run_underlying hu, sizeOf, typeInfo, hi, Builtin.lenOf, Builtin.firstCells, storeCells, h1, hl0, hle]

/-- append over what stands behind a part. -/
theorem appendOver_did (hR : R E s a w L) {t ty e : TypeId} (hk : kindT P t = .slice e) {id n off len : Nat} {cx cy : Value} {r : Nat × List AV} (hown : ownAt s.b id = some r) {xsz : Nat} {xs : List AV} (hsrc : Src E w cy xsz xs)
    (hx : Rep E (.row id n off len) cx []) (h : outW Sp (overK s id (szT P e) n (off + len) xsz xs r.1 r.2 (.row id n off (len + xs.length))) K) :
    Did E s a w L K ((Builtin.append_ #[t, t] ty #[cx, cy]).run P w) := by
  obtain ⟨⟨hbz, hxz, hpos, hn0, hle, hno⟩, hK⟩ := h
  subst hxz
  obtain ⟨bsz, els⟩ := r
  simp only at *
  subst hbz
  have hu := kind_slice hk
  obtain ⟨i, hi⟩ := szT_info hpos
  have hisz : i.size = szT P e := by simp [szT, hi]
  obtain ⟨q0, hq0, hq1⟩ := Option.bind_eq_some_iff.1 hown
  have hlook := rowAt_look hq0
  obtain ⟨sz', els', fr⟩ := q0
  cases fr
  case true => simp at hq1
  simp only [Bool.false_eq_true, if_false, Option.some.injEq, Prod.mk.injEq] at hq1
  obtain ⟨rfl, rfl⟩ := hq1
  simp only at hlook
  subst hn0
  cases hx with
  | @row _ _ _ _ x _ hg ho hn hv hh =>
    obtain ⟨y, hy⟩ := hR.row hlook
    obtain rfl : x = y := by have := hy.g; rw [hg] at this; injection this
    obtain ⟨ao, rfl, hat⟩ := hh hy.n
    have hcap := hy.le
    by_cases hxs : xs = []
    · subst hxs
      obtain ⟨yo, yc, rfl, _⟩ := hsrc.is
      rw [show ([] : List AV).length = 0 from rfl, append_none hu (by rw [hi]; rfl) (by simp at hle; omega)]
      have he : els'.take (off + len) ++ [] ++ els'.drop (off + len + ([] : List AV).length) = els' := by simp
      rw [he, setB_same hlook] at hK
      exact did_ok hR (v := .row id els'.length off len) hK (.row hg ho hn ⟨_, _, rfl⟩ fun _ => ⟨ao, rfl, hat⟩)
    · have hp : 0 < xs.length := List.length_pos_iff.2 hxs
      obtain ⟨ad, yc, news, rfl, hnews, hrn⟩ := src_news hsrc hxs
      obtain ⟨b, cells, fty, fz, hb, hbw, hf, hfit, hnl, hn1, E', L', hr, hm⟩ := over_move hR hlook hg hrn hsrc.z hle hno hp hpos
      have hao := hat (.inl (by omega))
      rw [hb] at hao
      simp only [Option.map_some] at hao
      subst hao
      have hs := hy.hsz
      have hrun := run_append_room_cells (P := P) w t ty e i hu hi b (off * x.sz) len (x.cap - off) ad xs.length yc news (by rw [hnl, hisz]) hnews hn1 (by omega)
        (fun j hj => by
          rw [cell_at]; unfold cellAt; rw [hbw]
          show (cells[off * x.sz + len * i.size + j]?).isSome = true
          rw [hs, hisz, ← Nat.add_mul]
          simp; omega)
        (fun j hj => by
          unfold World.frozen?
          rw [hbw]
          have := hf (off * x.sz + len * i.size + j) (by rw [hs, hisz, ← Nat.add_mul]; omega)
          simp only [Bool.and_eq_false_iff, decide_eq_false_iff_not]
          omega)
      rw [hrun]
      have e1 : off * x.sz + len * i.size = (off + len) * szT P e := by rw [hs, hisz, Nat.add_mul]
      rw [e1]
      have hv : Rep E (.row id els'.length off (len + xs.length)) (.slice (some ⟨b, off * x.sz, none⟩) (len + xs.length) (x.cap - off)) [] :=
        .row hg ho hn ⟨_, _, rfl⟩ fun _ => ⟨_, rfl, fun _ => by rw [hb]; rfl⟩
      exact ⟨_, _, E', _, L', _, hK, hr, hm, hv.ext hm.ext, rfl, fun h => nomatch h⟩

theorem copy_none {t u ty e : TypeId} (hu : P.underlying t = some (.slice e)) (hi : (P.info? e).isSome) {ao yo : Option Addr} {len cap n yc : Nat} (h0 : Nat.min n len = 0) :
    (Builtin.copy_ #[t, u] ty #[.slice ao len cap, .slice yo n yc]).run P w = .ok (.int .i64 0) w := by
  obtain ⟨i, hi⟩ := Option.isSome_iff_exists.1 hi
  have hl0 : ∀ (x : Addr), (loadCells x 0).run P w = .ok #[] w := fun x => by simpa using run_loadCells_list (P := P) w x [] (by simp)
  cases yo <;> cases ao <;> simp [Builtin.copy_, run_underlying hu, sizeOf, typeInfo, hi, Builtin.lenOf, Builtin.firstCells, storeCells, hl0, h0, goInt]

theorem run_copy_n (w : World) (dT sT ty elem : TypeId) (i : TypeInfo) (b o dLen dCap : Nat) (a : Addr) (sLen sCap : Nat) (cs : List Value)
    (hu : P.underlying dT = some (.slice elem)) (hi : P.info? elem = some i) (hn : cs.length = Nat.min sLen dLen * i.size)
    (hsrc : ∀ j v, cs[j]? = some v → w.cell? (a.add j) = some v) (hc : ∀ j, j < cs.length → (w.cell? ⟨b, o + j, none⟩).isSome = true) (hf : ∀ j, j < cs.length → w.frozen? ⟨b, o + j, none⟩ = false) (h1 : ∀ v ∈ cs, v.oneCell' = true) :
    (Builtin.copy_ #[dT, sT] ty #[.slice (some ⟨b, o, none⟩) dLen dCap, .slice (some a) sLen sCap]).run P w = .ok (.int .i64 (Nat.min sLen dLen)) (w.setCells b o cs) := by
  have hl := run_loadCells_list (P := P) w a cs hsrc
  have hst := run_storeCells_cells (P := P) b o cs 0 w (by simpa using hc) (by simpa using hf) h1
  rw [hn] at hl
  simp [Builtin.copy_, run_underlying hu, Builtin.lenOf, Builtin.firstCells, sizeOf, typeInfo, hi, hl, hst, goInt]

theorem ownAt_look {id : Nat} {r : Nat × List AV} {b : Mem} (hown : ownAt b id = some r) : look id b = some (.row r.1 r.2 false) := by
  obtain ⟨q0, hq0, hq1⟩ := Option.bind_eq_some_iff.1 hown
  have hlook := rowAt_look hq0
  obtain ⟨sz', els', fr⟩ := q0
  cases fr
  case true => simp at hq1
  simp only [Bool.false_eq_true, if_false, Option.some.injEq] at hq1
  subst hq1
  exact hlook

theorem copy_did (hR : R E s a w L) {t ty e : TypeId} (hk : kindT P t = .slice e) {x y : AV} {cx cy : Value} (hx : Rep E x cx []) (hy : Rep E y cy [])
    (h : outW Sp (copyO s (szT P e) x y) K) : Did E s a w L K ((Builtin.copy_ #[t, t] ty #[cx, cy]).run P w) := by
  unfold copyO at h
  split at h
  · rename_i id n off len
    obtain ⟨xsz, xs, hA, hsrc⟩ := els_src hR hy h
    obtain ⟨r, hown, hB⟩ := outW_okO hA
    obtain ⟨hol, ⟨hbz, hxz, hpos, hn0, hle, hno⟩, hK⟩ := hB
    have hlook := ownAt_look hown
    obtain ⟨bsz, els'⟩ := r
    simp only at *
    subst hxz hbz hn0
    have hu := kind_slice hk
    obtain ⟨i, hi⟩ := szT_info hpos
    have hisz : i.size = szT P e := by simp [szT, hi]
    cases hx with
    | @row _ _ _ _ x _ hg ho hn hv hh =>
      obtain ⟨y, hy'⟩ := hR.row hlook
      obtain rfl : x = y := by have := hy'.g; rw [hg] at this; injection this
      obtain ⟨ao, rfl, hat⟩ := hh hy'.n
      have hcap := hy'.le
      by_cases hxs : xs.take len = []
      · obtain ⟨yo, yc, rfl, _⟩ := hsrc.is
        have h0 : Nat.min xs.length len = 0 := by
          have := congrArg List.length hxs
          rw [List.length_take] at this
          exact (Nat.min_comm _ _).trans this
        rw [copy_none hu (by rw [hi]; rfl) h0]
        rw [hxs] at hK
        have he : els'.take off ++ [] ++ els'.drop (off + ([] : List AV).length) = els' := by simp
        rw [he, setB_same hlook] at hK
        exact did_ok hR hK (.int _ _)
      · have hp : 0 < (xs.take len).length := List.length_pos_iff.2 hxs
        obtain ⟨ad, yc, news, rfl, hnews, hrn⟩ := src_news hsrc (fun h => hxs (by rw [h]; simp))
        have hrn2 : RepL E (flat (xs.take len)) (news.take (len * szT P e)) [] := by
          have := flat_drop_take (l := 0) (n := len) hsrc.z
          simp only [List.drop_zero, Nat.zero_mul] at this
          rw [this]
          exact hrn.take _
        obtain ⟨b, cells, fty, fz, hb, hbw, hf, hfit, hnl, hn1, E', L', hr, hm⟩ := over_move hR hlook hg hrn2 (fun e he => hsrc.z e (List.mem_of_mem_take he)) hle hno hp hpos
        have hll : 0 < len := by
          rcases Nat.eq_zero_or_pos len with h | h
          · subst h; simp at hp
          · exact h
        have hao := hat (.inl (by omega))
        rw [hb] at hao
        simp only [Option.map_some] at hao
        subst hao
        have hs := hy'.hsz
        have hmin : (xs.take len).length = Nat.min xs.length len := by rw [List.length_take]; exact Nat.min_comm _ _
        have hrun := run_copy_n w t t ty e i b (off * x.sz) len (x.cap - off) ad xs.length yc (news.take (len * szT P e)) hu hi (by rw [hnl, hisz, hmin])
          (fun j v hj => by
            rw [List.getElem?_take] at hj
            split at hj
            · exact hnews j v hj
            · cases hj)
          (fun j hj => by
            rw [cell_at]; unfold cellAt; rw [hbw]
            show (cells[off * x.sz + j]?).isSome = true
            rw [hs]
            simp; omega)
          (fun j hj => by
            unfold World.frozen?
            rw [hbw]
            have := hf (off * x.sz + j) (by rw [hs]; omega)
            simp only [Bool.and_eq_false_iff, decide_eq_false_iff_not]
            omega) hn1
        rw [hrun, hs, ← hmin]
        exact ⟨_, _, E', _, L', _, hK, hr, hm, .int _ _, rfl, fun h => nomatch h⟩
  · exact h.elim

theorem rep_get {E : Env} : ∀ {as : List AV} {vs : List Value}, as.length = vs.length → (∀ (i : Nat) (a : AV) (v : Value), as[i]? = some a → vs[i]? = some v → Rep E a v []) → RepL E as vs []
  | [], [], _, _ => .nil
  | a :: as, v :: vs, hl, h => .cons (l := []) (m := []) (h 0 a v rfl rfl) (rep_get (by simpa using hl) fun i a v h1 h2 => h (i + 1) a v (by simpa using h1) (by simpa using h2))
  | [], _ :: _, hl, _ => by simp at hl
  | _ :: _, [], hl, _ => by simp at hl
theorem flat_rep_get {α : Type} (zs : List α) : ∀ (k j : Nat), j < k * zs.length → (List.replicate k zs).flatten[j]? = zs[j % zs.length]?
  | 0, j, h => by simp at h
  | k + 1, j, h => by
    rw [List.replicate_succ, List.flatten_cons]
    by_cases hj : j < zs.length
    · rw [List.getElem?_append_left hj, Nat.mod_eq_of_lt hj]
    · rw [List.getElem?_append_right (by omega), flat_rep_get zs k (j - zs.length) (by rw [Nat.add_mul] at h; omega), ← Nat.mod_eq_sub_mod (by omega)]
/-- A zero value many times over. -/
theorem zeros_rep {z : AV} {cz : Value} {sz : Nat} (hz : okE sz z) (hr : Rep E z cz []) (k : Nat) (hpos : 0 < sz) : RepL E (flat (List.replicate k z)) (Builtin.zeroCells cz.cells k).toList [] := by
  have hc := hr.cells hz.2
  have hl := hc.length
  have hl' : (cellsOf z).length = cz.cells.size := by rw [hl]; exact Array.length_toList
  have hf : flat (List.replicate k z) = (List.replicate k (cellsOf z)).flatten := by
    unfold flat
    rw [List.flatMap_def, List.map_replicate]
  rw [hf]
  have hsz := hz.1
  refine rep_get (by simp [Builtin.zeroCells, hl']) fun i a v hi hv => ?_
  have hik : i < k * (cellsOf z).length := by have := (List.getElem?_eq_some_iff.1 hi).1; simpa using this
  rw [flat_rep_get _ k i hik] at hi
  obtain ⟨cv, li, h1, h2, p, q, e⟩ := hc.get hi
  obtain rfl : li = [] := by
    have := congrArg List.length e
    simp at this
    exact List.eq_nil_of_length_eq_zero (by omega)
  rw [hl', Array.getElem?_toList] at h1
  rw [hl'] at hik
  have e2 : cz.cells[i % cz.cells.size]! = cv := by rw [getElem!_def, h1]
  have hv2 : v = cv := by
    simp [Builtin.zeroCells, hik] at hv
    rw [← hv]; exact e2
  rw [hv2]; exact h2

theorem clear_did (hR : R E s a w L) {t ty e : TypeId} (hk : kindT P t = .slice e) {x : AV} {cx : Value} (hx : Rep E x cx []) (h : outW Sp (clearO s (szT P e) (zeroT P e) x) K) : Did E s a w L K ((Builtin.clear_ #[t] ty #[cx]).run P w) := by
  unfold clearO at h
  split at h
  · rename_i id n off len
    obtain ⟨r, hown, hB⟩ := outW_okO h
    obtain ⟨hzo, ⟨hbz, hxz, hpos, hn0, hle, hno⟩, hK⟩ := hB
    have hlook := ownAt_look hown
    obtain ⟨bsz, els'⟩ := r
    simp only at *
    subst hbz hn0
    have hu := kind_slice hk
    obtain ⟨i, hi⟩ := szT_info hpos
    have hisz : i.size = szT P e := by simp [szT, hi]
    have hz : C1 (zeroT P e) = true ∨ ∃ cs, zeroT P e = .agg cs := by
      have h1 := hzo.2
      revert h1
      generalize zeroT P e = z
      intro h1
      cases z <;> first | exact .inr ⟨_, rfl⟩ | (left; simpa [cellsOf, allC1] using h1)
    obtain ⟨z, hz, hv⟩ := zeroT_rep (E := E) hz
    obtain ⟨i', hi', hz⟩ := Option.bind_eq_some_iff.1 hz
    obtain rfl : i = i' := by rw [hi] at hi'; injection hi'
    cases hx with
    | @row _ _ _ _ x _ hg ho hn hv' hh =>
      obtain ⟨y, hy'⟩ := hR.row hlook
      obtain rfl : x = y := by have := hy'.g; rw [hg] at this; injection this
      obtain ⟨ao, rfl, hat⟩ := hh hy'.n
      have hcap := hy'.le
      rw [List.length_replicate] at hle
      rcases Nat.eq_zero_or_pos len with h0 | h0
      · subst h0
        have hrun : (Builtin.clear_ #[t] ty #[.slice ao 0 (x.cap - off)]).run P w = .ok (.tuple #[]) w := by
          cases ao <;> simp [Builtin.clear_, run_underlying hu]
        rw [hrun]
        have he : els'.take off ++ List.replicate 0 (zeroT P e) ++ els'.drop (off + (List.replicate 0 (zeroT P e)).length) = els' := by simp
        rw [he, setB_same hlook] at hK
        exact did_ok hR hK (.tup (by simpa using RepL.nil))
      · obtain ⟨b, cells, fty, fz, hb, hbw, hf, hfit, hnl, hn1, E', L', hr, hm⟩ := over_move hR hlook hg (zeros_rep hzo hv len hpos) (fun e he => by rw [(List.mem_replicate.1 he).2]; exact hzo) (by rw [List.length_replicate]; exact hle) hno (by simpa using h0) hpos
        have hao := hat (.inl (by omega))
        rw [hb] at hao
        simp only [Option.map_some] at hao
        subst hao
        have hs := hy'.hsz
        have hst := run_storeCells_cells (P := P) b (off * x.sz) (Builtin.zeroCells z.cells len).toList 0 w
          (fun j hj => by
            rw [cell_at]; unfold cellAt; rw [hbw]
            show (cells[off * x.sz + 0 + j]?).isSome = true
            rw [hs]
            simp at hfit hj ⊢; omega)
          (fun j hj => by
            unfold World.frozen?
            rw [hbw]
            have := hf (off * x.sz + 0 + j) (by rw [hs]; omega)
            simp only [Bool.and_eq_false_iff, decide_eq_false_iff_not]
            omega) hn1
        have hlen : len ≠ 0 := by omega
        have hrun : (Builtin.clear_ #[t] ty #[.slice (some ⟨b, off * x.sz, none⟩) len (x.cap - off)]).run P w = .ok (.tuple #[]) (w.setCells b (off * x.sz) (Builtin.zeroCells z.cells len).toList) := by
          obtain ⟨len, rfl⟩ := Nat.exists_eq_succ_of_ne_zero hlen
          simp only [Nat.add_zero] at hst
          simp [Builtin.clear_, run_underlying hu, zeroValue, typeInfo, hi, hz, hst]
        rw [hrun, hs]
        exact ⟨_, _, E', _, L', _, hK, hr, hm, .tup (by simpa using RepL.nil), rfl, fun h => nomatch h⟩
  · exact h.elim
end Go.Ev

/-
Maps: made, written, asked.
-/
set_option linter.unusedVariables false
set_option linter.unusedSimpArgs false
namespace Go.Ev
variable {Sp : FuncId → List AV → AV → List AV → Prop} {P : Program} {E : Env} {s : S} {a : Act} {w : World} {L : List Nat} {K : S → AV → Prop}

theorem kind_map {t k e : TypeId} (h : mapK (kindT P t) = some (k, e)) : P.underlying t = some (.map k e) := by
  unfold mapK at h
  split at h
  · rename_i k' e' hk
    injection h with h
    injection h with h1 h2
    subst h1 h2
    unfold kindT at hk
    split at hk <;> first | cases hk | skip
    assumption
  · cases h
def lkT : LK → TypeDesc
  | .bool => .bool
  | .int k => .int k
  | .str => .string
theorem kind_key {t : TypeId} {lk : LK} (h : keyK (kindT P t) = some lk) : P.underlying t = some (lkT lk) := by
  unfold keyK at h
  split at h
  · rename_i hk; injection h with h; subst h; exact kind_str hk
  · rename_i k hk; injection h with h; subst h; exact kind_int hk
  · rename_i hk; injection h with h; subst h
    unfold kindT at hk
    split at hk <;> first | cases hk | skip
    assumption
  · cases h

theorem bytes_eqL (a b : ByteArray) : (a == b) = (a.toList == b.toList) := by
  rw [Bool.eq_iff_iff, MapKept.bytes_beq]
  constructor
  · rintro rfl; simp
  · intro h
    have h' : a.toList = b.toList := by simpa using h
    apply ByteArray.ext
    apply Array.toList_inj.1
    rw [← ByteArray.toList_eq, ← ByteArray.toList_eq]
    exact h'
theorem bytes_comm (a b : ByteArray) : (a == b) = (b == a) := by
  rw [Bool.eq_iff_iff, MapKept.bytes_beq, MapKept.bytes_beq]; exact eq_comm

theorem eqK_now {lk : LK} {x y : AV} {cx cy : Value} {r : Bool} (hx : Rep E x cx []) (hy : Rep E y cy []) (h : eqK lk x y = some r) : Instr.sameNow (lkT lk) cx cy = some r ∧ (r = true → Instr.sameBits 10000 cy cx = true) := by
  unfold eqK at h
  split at h
  · cases hx; cases hy; injection h with h; subst h; exact ⟨rfl, fun h => by simp [Instr.sameBits] at h ⊢; exact h.symm⟩
  · cases hx; cases hy
    split at h
    · rename_i hk; subst hk; injection h with h; subst h
      exact ⟨by simp [Instr.sameNow, lkT], fun h => by simp [Instr.sameBits] at h ⊢; exact h.symm⟩
    · cases h
  · cases hx; cases hy; injection h with h; subst h
    refine ⟨?_, fun h => ?_⟩
    · simp only [Instr.sameNow, lkT]; rw [bytes_eqL]
    · rw [← bytes_eqL, bytes_comm] at h; simpa [Instr.sameBits] using h
  · cases h

theorem findM_now {lk : LK} {k : AV} {ck : Value} (hk : Rep E k ck []) : ∀ {ks vs : List AV} {es : List MapEntry} {r : Option AV} {i : Nat}, RepL E ks (es.map (·.key)) [] → RepL E vs (es.map (·.val)) [] → findM lk k ks vs = some r →
    (r = none ∧ Instr.findNow (lkT lk) ck es i = some none) ∨ ∃ v j cv, r = some v ∧ Instr.findNow (lkT lk) ck es i = some (some (j, cv)) ∧ Rep E v cv []
  | [], vs, es, r, i, h1, h2, h => by
    cases es with
    | nil => simp only [findM, Option.some.injEq] at h; exact .inl ⟨h.symm, rfl⟩
    | cons e es => cases h1
  | x :: ks, vs, es, r, i, h1, h2, h => by
    cases es with
    | nil => cases h1
    | cons e es =>
      cases vs with
      | nil => cases h2
      | cons v vs =>
        obtain ⟨c1, cs1, l1, l2, e1, hl, g1, g2⟩ := h1.inv
        obtain ⟨rfl, rfl⟩ : l1 = [] ∧ l2 = [] := by simpa using hl.symm
        obtain ⟨c2, cs2, l3, l4, e2, hl2, g3, g4⟩ := h2.inv
        obtain ⟨rfl, rfl⟩ : l3 = [] ∧ l4 = [] := by simpa using hl2.symm
        simp only [List.map_cons, List.cons.injEq] at e1 e2
        obtain ⟨rfl, rfl⟩ := e1
        obtain ⟨rfl, rfl⟩ := e2
        simp only [findM, Option.bind_eq_some_iff] at h
        obtain ⟨q, hq, h⟩ := h
        obtain ⟨hn, _⟩ := eqK_now hk g1 hq
        cases q with
        | true =>
          simp only [if_true, Option.some.injEq] at h
          subst h
          exact .inr ⟨v, i, e.val, rfl, by simp [Instr.findNow, hn], g3⟩
        | false =>
          simp only [Bool.false_eq_true, if_false] at h
          have := findM_now hk (i := i + 1) g2 g4 h
          simpa [Instr.findNow, hn] using this

theorem run_find {kt : TypeId} {lk : LK} (hkt : P.underlying kt = some (lkT lk)) {ck : Value} {es : List MapEntry} {r : Option (Nat × Value)} (h : Instr.findNow (lkT lk) ck es 0 = some r) : (Instr.findKey kt ck es).run P w = .ok r w := by
  unfold Instr.findKey
  simp only [Sem.run_bind, run_underlying hkt, Result.andThen_ok, h, Sem.run_pure]
theorem run_check {kt : TypeId} {lk : LK} (hkt : P.underlying kt = some (lkT lk)) (em : Bool) (ck : Value) : (Instr.checkKey em 10000 kt ck).run P w = .ok () w := by
  unfold Instr.checkKey
  simp only [Sem.run_bind, run_underlying hkt, Result.andThen_ok]
  cases lk <;> cases ck <;> rfl

theorem lookup_did (hR : R E s a w L) {t : TypeId} {ok : Bool} {m k : AV} {cm ck : Value} {r : List AV × List AV} {kk : TypeId × TypeId} {lk : LK} {v : Option AV} (hm : Rep E m cm []) (hk : Rep E k ck []) (hr : mapOf s.b m = some r) (hkk : mapK (kindT P t) = some kk)
    (hlk : keyK (kindT P kk.1) = some lk) (hf : findM lk k r.1 r.2 = some v) (hz : C1 (zeroT P kk.2) = true) (h : outW Sp (lookK s ok (zeroT P kk.2) v) K) : DidG true E s a w L K ((Instr.lookup t cm ck ok).run P w) := by
  have hu := kind_map (k := kk.1) (e := kk.2) hkk
  have hku := kind_key hlk
  obtain ⟨z, hz1, hz2⟩ := zeroT_rep (E := E) (.inl hz)
  have hzr : (zeroValue kk.2).run P w = .ok z w := by
    obtain ⟨i, hi, hiz⟩ := Option.bind_eq_some_iff.1 hz1
    simp [zeroValue, typeInfo, hi, hiz]
  have fin : ∀ {u : AV} {cu : Value} {b : Bool}, v.getD (zeroT P kk.2) = u → v.isSome = b → Rep E u cu [] → (Instr.lookup t cm ck ok).run P w = .ok (if ok = true then .tuple #[cu, .bool b] else cu) w → DidG true E s a w L K ((Instr.lookup t cm ck ok).run P w) := by
    intro u cu b hu hb hrep hrun
    rw [hrun]
    unfold lookK at h
    rw [hu, hb] at h
    split at h
    · rename_i ho
      rw [if_pos ho]
      exact did_ok hR h (.tup (.cons (l := []) (m := []) hrep (.cons (l := []) (m := []) (.bool _) .nil)))
    · rename_i ho
      rw [if_neg ho]
      exact did_ok hR h hrep
  have main : ∀ {es : Array MapEntry} {clock : Nat}, RepL E r.1 (es.toList.map (·.key)) [] → RepL E r.2 (es.toList.map (·.val)) [] → (∀ {v' : Value} {b : Bool}, (∀ q, (Instr.findKey kk.1 ck es.toList).run P w = .ok q w → (match q with | some (_, v) => (v, true) | none => (z, false)) = (v', b)) →
      (Instr.lookup t cm ck ok).run P w = .ok (if ok = true then .tuple #[v', .bool b] else v') w) → DidG true E s a w L K ((Instr.lookup t cm ck ok).run P w) := by
    intro es clock h1 h2 hrun
    rcases findM_now hk (i := 0) h1 h2 hf with ⟨rfl, hn⟩ | ⟨u, j, cu, rfl, hn, hrep⟩
    · refine fin (u := zeroT P kk.2) (cu := z) (b := false) rfl rfl hz2 (hrun fun q hq => ?_)
      have := run_find (w := w) hku hn
      rw [this] at hq; injection hq with hq; subst hq; rfl
    · refine fin (u := u) (cu := cu) (b := true) rfl rfl hrep (hrun fun q hq => ?_)
      have := run_find (w := w) hku hn
      rw [this] at hq; injection hq with hq; subst hq; rfl
  have hfind : ∀ {es : Array MapEntry}, RepL E r.1 (es.toList.map (·.key)) [] → RepL E r.2 (es.toList.map (·.val)) [] → ∃ q, (Instr.findKey kk.1 ck es.toList).run P w = .ok q w := fun h1 h2 => by
    rcases findM_now hk (i := 0) h1 h2 hf with ⟨_, hn⟩ | ⟨u, j, cu, _, hn, _⟩ <;> exact ⟨_, run_find hku hn⟩
  cases m
  case mp id =>
    obtain ⟨blk, hl, hg⟩ := Option.bind_eq_some_iff.1 hr
    cases blk <;> simp [getMap] at hg
    rename_i ks vs
    subst hg
    obtain ⟨l, hbr, _⟩ := hR.get hl
    cases hm with
    | @mp _ x b1 hg ho hb1 =>
      cases hbr with
      | @map _ _ x' b2 es clock hg' ho' hx' hb' hk' hv' =>
        obtain rfl : x = x' := by rw [hg] at hg'; injection hg'
        obtain rfl : b1 = b2 := by rw [hb1] at hx'; injection hx'
        have hbw : w.heap[b1]? = some (.map es clock) := by rw [← hR.heap]; exact hb'
        refine main (clock := clock) hk' hv' fun {v' b} hq => ?_
        obtain ⟨q, hrq⟩ := hfind hk' hv'
        have := hq q hrq
        unfold Instr.lookup
        simp only [Sem.run_bind, run_underlying hu, Result.andThen_ok, MapKept.run_getObj_map hbw, Sem.run_pure, run_check hku, hrq]
        cases q with
        | none => injection this with h1 h2; subst h1 h2; simp [hzr, Sem.run_bind]
        | some p => injection this with h1 h2; subst h1 h2; simp [Sem.run_bind]
  case nilm =>
    injection hr with hr
    subst hr
    cases hm
    refine main (es := #[]) (clock := 0) .nil .nil fun {v' b} hq => ?_
    obtain ⟨q, hrq⟩ := hfind (es := #[]) .nil .nil
    have := hq q hrq
    unfold Instr.lookup
    simp only [Sem.run_bind, run_underlying hu, Result.andThen_ok, Sem.run_pure, run_check hku, hrq]
    cases q with
    | none => injection this with h1 h2; subst h1 h2; simp [hzr, Sem.run_bind]
    | some p => injection this with h1 h2; subst h1 h2; simp [Sem.run_bind]
  all_goals cases hr
end Go.Ev

/-
Maps: made, written.
-/
set_option linter.unusedVariables false
set_option linter.unusedSimpArgs false
namespace Go.Ev
variable {Sp : FuncId → List AV → AV → List AV → Prop} {P : Program} {E : Env} {s : S} {a : Act} {w : World} {L : List Nat} {K : S → AV → Prop}

def setW (w : World) (b : Nat) (o : Obj) : World := { w with heap := w.heap.setIfInBounds b o }

theorem heap_move (hR : R E s a w L) {b : Nat} (hbL : b ∈ L) (o : Obj) :
    Move E w L { h := (setW w b o).heap, st := E.st, g := E.g } (setW w b o) L ∧ (∀ l : List Nat, b ∉ l → Ext E { h := (setW w b o).heap, st := E.st, g := E.g } l) ∧ (setW w b o).heap[b]? = some o := by
  have hlt : b < w.heap.size := by rw [← hR.heap]; exact hR.own.lt b hbL
  have hsz : (setW w b o).heap.size = E.h.size := by rw [hR.heap]; simp [setW]
  have hext : ∀ l : List Nat, b ∉ l → Ext E { h := (setW w b o).heap, st := E.st, g := E.g } l := fun l hbl =>
    ⟨fun k hk => by
      show (w.heap.setIfInBounds b o)[k]? = E.h[k]?
      rw [hR.heap, Array.getElem?_setIfInBounds]
      split
      · rename_i e
        subst e
        rcases hk with hk | hk
        · exact absurd hk (hR.own.off _ hbL)
        · exact absurd hk hbl
      · rfl, fun _ _ h => h, hR.own.sub, fun id x h => ⟨x, h, .inl rfl⟩⟩
  refine ⟨⟨hext [] (by simp), rfl, by simp [setW], fun k _ hk => ?_, fun _ _ h => .inl h, fun c hc => .inl hc, ⟨hR.own.nodup, fun c hc => ?_, hR.own.off, fun fl c hc => ?_, hR.own.sub⟩, rfl, rfl, rfl, fun _ h => .inl h⟩, hext, ?_⟩
  · show (w.heap.setIfInBounds b o)[k]? = w.heap[k]?
    rw [Array.getElem?_setIfInBounds, if_neg (fun e : b = k => hk (by subst e; exact hbL))]
  · show c < (setW w b o).heap.size
    rw [hsz]; exact hR.own.lt c hc
  · show c < (setW w b o).heap.size
    rw [hsz]; exact hR.own.stlt fl c hc
  · show (w.heap.setIfInBounds b o)[b]? = some o
    rw [Array.getElem?_setIfInBounds, if_pos rfl, if_pos hlt]

/-- A map's block written. -/
theorem map_core (hR : R E s a w L) {id : Nat} {ks vs ks' vs' : List AV} (hl : look id s.b = some (.map ks vs)) {x : Loc} {b : Nat} (hg : E.g id = some x) (hx : x.blk = some b) {es : Array MapEntry} {clock : Nat}
    (h1 : RepL E ks' (es.toList.map (·.key)) []) (h2 : RepL E vs' (es.toList.map (·.val)) []) :
    ∃ E' L', R E' { s with b := setB id (.map ks' vs') s.b } a (setW w b (.map es clock)) L' ∧ Move E w L E' (setW w b (.map es clock)) L' := by
  obtain ⟨p, l, q, hL, hbr, hset⟩ := hR.blk.set hl hR.keys
  cases hbr with
  | @map _ _ x' b' es0 c0 hg' ho hx' hb' hk' hv' =>
    obtain rfl : x = x' := by rw [hg] at hg'; injection hg'
    obtain rfl : b = b' := by rw [hx] at hx'; injection hx'
    have hbL : b ∈ L := by rw [hL]; simp
    obtain ⟨hm, hext, hnew⟩ := heap_move hR hbL (.map es clock)
    have hnd := hR.own.nodup
    have hbpq : b ∉ p ++ q := by
      rw [hL] at hnd
      intro hm
      rw [List.nodup_append] at hnd
      obtain ⟨h1, h2, h3⟩ := hnd
      rcases List.mem_append.1 hm with hm | hm
      · exact h3 b hm b (by simp) rfl
      · rw [List.cons_append, List.nodup_cons] at h2
        exact h2.1 (by simp [hm])
    have hB := hset { h := (setW w b (.map es clock)).heap, st := E.st, g := E.g } (.map ks' vs') [b] (.map (x := x) hg ho hx hnew (h1.ext (hext [] (by simp))) (h2.ext (hext [] (by simp)))) (hext _ hbpq) (fun _ _ _ => rfl)
    rw [← hL] at hB
    exact ⟨_, _, hR.step hm (b := setB id (.map ks' vs') s.b) (n := s.n) hB (by rw [keys_setB]; exact hR.keys) hR.gn, hm⟩

theorem setM_now {lk : LK} {k v : AV} {ck cv : Value} (hk : Rep E k ck []) (hv : Rep E v cv []) : ∀ {ks vs ks' vs' : List AV} {es : List MapEntry} {i : Nat}, RepL E ks (es.map (·.key)) [] → RepL E vs (es.map (·.val)) [] → setM lk k v ks vs = some (ks', vs') →
    (Instr.findNow (lkT lk) ck es i = some none ∧ ∀ e : MapEntry, e.key = ck → e.val = cv → RepL E ks' ((es ++ [e]).map (·.key)) [] ∧ RepL E vs' ((es ++ [e]).map (·.val)) []) ∨
    (∃ j u, Instr.findNow (lkT lk) ck es i = some (some (i + j, u)) ∧ (∃ e, es[j]? = some e ∧ Instr.sameBits 10000 e.key ck = true) ∧
      RepL E ks' ((es.modify j fun e => { e with key := ck, val := cv }).map (·.key)) [] ∧ RepL E vs' ((es.modify j fun e => { e with key := ck, val := cv }).map (·.val)) [])
  | [], vs, ks', vs', es, i, h1, h2, h => by
    cases es with
    | cons e es => cases h1
    | nil =>
      cases h2
      simp only [setM, Option.some.injEq, Prod.mk.injEq] at h
      obtain ⟨rfl, rfl⟩ := h
      refine .inl ⟨rfl, fun e h3 h4 => ?_⟩
      subst h3 h4
      exact ⟨.cons (l := []) (m := []) hk .nil, .cons (l := []) (m := []) hv .nil⟩
  | x :: ks, vs, ks', vs', es, i, h1, h2, h => by
    cases es with
    | nil => cases h1
    | cons e es =>
      cases vs with
      | nil => cases h2
      | cons y vs =>
        obtain ⟨c1, cs1, l1, l2, e1, hl, g1, g2⟩ := h1.inv
        obtain ⟨rfl, rfl⟩ : l1 = [] ∧ l2 = [] := by simpa using hl.symm
        obtain ⟨c2, cs2, l3, l4, e2, hl2, g3, g4⟩ := h2.inv
        obtain ⟨rfl, rfl⟩ : l3 = [] ∧ l4 = [] := by simpa using hl2.symm
        simp only [List.map_cons, List.cons.injEq] at e1 e2
        obtain ⟨rfl, rfl⟩ := e1
        obtain ⟨rfl, rfl⟩ := e2
        simp only [setM, Option.bind_eq_some_iff] at h
        obtain ⟨q, hq, h⟩ := h
        obtain ⟨hn, hsame⟩ := eqK_now hk g1 hq
        cases q with
        | true =>
          simp only [if_true, Option.some.injEq, Prod.mk.injEq] at h
          obtain ⟨rfl, rfl⟩ := h
          refine .inr ⟨0, e.val, by simp [Instr.findNow, hn], ⟨e, rfl, hsame rfl⟩, ?_, ?_⟩
          · exact .cons (l := []) (m := []) hk g2
          · exact .cons (l := []) (m := []) hv g4
        | false =>
          simp only [Bool.false_eq_true, if_false, Option.map_eq_some_iff] at h
          obtain ⟨r, hr, h⟩ := h
          simp only [Prod.mk.injEq] at h
          obtain ⟨rfl, rfl⟩ := h
          rcases setM_now hk hv (i := i + 1) g2 g4 (ks' := r.1) (vs' := r.2) hr with ⟨h5, h6⟩ | ⟨j, u, h5, h6, h7, h8⟩
          · refine .inl ⟨by simpa [Instr.findNow, hn] using h5, fun e' h3 h4 => ?_⟩
            obtain ⟨h7, h8⟩ := h6 e' h3 h4
            exact ⟨.cons (l := []) (m := []) g1 h7, .cons (l := []) (m := []) g3 h8⟩
          · refine .inr ⟨j + 1, u, by simp [Instr.findNow, hn, h5]; omega, by simpa using h6, ?_, ?_⟩
            · exact .cons (l := []) (m := []) g1 h7
            · exact .cons (l := []) (m := []) g3 h8

theorem mapSet_did (hR : R E s a w L) {t : TypeId} {m k v : AV} {cm ck cv : Value} {kk : TypeId × TypeId} {lk : LK} (hm : Rep E m cm []) (hk : Rep E k ck []) (hv : Rep E v cv []) (hkk : mapK (kindT P t) = some kk)
    (hlk : keyK (kindT P kk.1) = some lk) (h : outW Sp (mapSetO s m k v lk) K) : DidU E s a w L K ((Instr.mapUpdate t cm ck cv).run P w) := by
  have hu := kind_map (k := kk.1) (e := kk.2) hkk
  have hku := kind_key hlk
  cases m
  case mp id =>
    simp only [mapSetO] at h
    obtain ⟨r, hr, hA⟩ := outW_okO h
    obtain ⟨q, hq, hB⟩ := outW_okO hA
    obtain ⟨blk, hl, hg⟩ := Option.bind_eq_some_iff.1 hr
    cases blk <;> simp [getMap] at hg
    rename_i ks vs
    subst hg
    obtain ⟨l, hbr, _⟩ := hR.get hl
    cases hm with
    | @mp _ x b1 hg ho hb1 =>
      cases hbr with
      | @map _ _ x' b2 es clock hg' ho' hx' hb' hk' hv' =>
        obtain rfl : x = x' := by rw [hg] at hg'; injection hg'
        obtain rfl : b1 = b2 := by rw [hb1] at hx'; injection hx'
        have hbw : w.heap[b1]? = some (.map es clock) := by rw [← hR.heap]; exact hb'
        rcases setM_now hk hv (i := 0) hk' hv' (ks' := q.1) (vs' := q.2) hq with ⟨h5, h6⟩ | ⟨j, u, h5, ⟨e, he, hsb⟩, h7, h8⟩
        · obtain ⟨h7, h8⟩ := h6 { key := ck, val := cv, born := clock } rfl rfl
          obtain ⟨E', L', hR', hm'⟩ := map_core hR hl hg hb1 (es := es.push { key := ck, val := cv, born := clock }) (clock := clock + 1) (by simpa using h7) (by simpa using h8)
          refine ⟨_, E', _, L', hB, hR', hm', ?_⟩
          unfold Instr.mapUpdate
          simp only [Sem.run_bind, run_underlying hu, Result.andThen_ok, MapKept.run_getObj_map hbw, run_check hku, run_find hku h5, MapKept.run_setObj_map _ hbw]
          rfl
        · rw [Nat.zero_add] at h5
          have hea : es[j]? = some e := by rw [← Array.getElem?_toList]; exact he
          obtain ⟨E', L', hR', hm'⟩ := map_core hR hl hg hb1 (es := es.modify j fun e => { e with key := ck, val := cv }) (clock := clock) (by simpa using h7) (by simpa using h8)
          refine ⟨_, E', _, L', hB, hR', hm', ?_⟩
          unfold Instr.mapUpdate
          simp only [Sem.run_bind, run_underlying hu, Result.andThen_ok, MapKept.run_getObj_map hbw, run_check hku, run_find hku h5, Instr.keyThatStays, hea, Option.map_some, Option.getD_some, hsb, if_true, Sem.run_pure, MapKept.run_setObj_map _ hbw]
          rfl
  all_goals exact h.elim

theorem makeMap_did (hR : R E s a w L) {m : Sem Value} (hr : m.run P w = .ok (.map (some w.heap.size)) (w.alloc (.map #[] 0))) (h : outW Sp (makeMapO s) K) : Did E s a w L K (m.run P w) := by
  let x : Loc := ⟨true, some w.heap.size, 0, 0, 0⟩
  obtain ⟨hmv, hext, hnew⟩ := alloc_move hR w rfl rfl rfl rfl (.map #[] 0) (g := updG E.g s.n x) (fun id y hy => ⟨y, updG_old hR.gn id y hy, .inl rfl⟩) (L' := L) hR.own.nodup fun _ h => h
  rw [hr]
  refine ⟨_, _, _, _, _, _, h, hR.step hmv (b := (s.n, .map [] []) :: s.b) (n := s.n + 1) ?_ ?_ (updG_lt hR.gn), hmv, .mp (l := x) updG_new rfl rfl, rfl, fun h => nomatch h⟩
  · have hb : BlkRep { h := (w.alloc (.map #[] 0)).heap, st := E.st, g := updG E.g s.n x } s.n (.map [] []) [w.heap.size] := .map (x := x) updG_new rfl rfl hnew .nil .nil
    exact Blks.cons (l := [w.heap.size]) hb (hR.blk.ext (hext L fun _ h => h) fun id hid => by
      have := hR.keysLt id hid
      simp only [updG, if_neg (show ¬ id = s.n by omega)])
  · simp only [List.map_cons, List.nodup_cons]
    exact ⟨fun hm => by have := hR.keysLt _ hm; omega, hR.keys⟩
theorem makeMap_run {t : TypeId} : (Instr.makeMap t none).run P w = .ok (.map (some w.heap.size)) (w.alloc (.map #[] 0)) := rfl
theorem makeMap_runS {t : TypeId} {kk : TypeId × TypeId} (hkk : mapK (kindT P t) = some kk) {v : AV} {cv : Value} {n : Int} (hv : Rep E v cv []) (hn : intOf v = some n) : (Instr.makeMap t (some cv)).run P w = .ok (.map (some w.heap.size)) (w.alloc (.map #[] 0)) := by
  have hu := kind_map (k := kk.1) (e := kk.2) hkk
  unfold intOf at hn
  split at hn
  · cases hv
    unfold Instr.makeMap
    simp only [Sem.run_bind, run_underlying hu, Result.andThen_ok, asInt, Sem.run_pure]
    rfl
  · cases hn
end Go.Ev

/-
Every operation; regions; code.
-/
set_option linter.unusedVariables false
set_option linter.unusedSimpArgs false
namespace Go.Ev
variable {Sp : FuncId → List AV → AV → List AV → Prop} {P : Program} {E : Env} {s : S} {a : Act} {w : World} {L : List Nat} {K : S → AV → Prop}

def Rel (E0 : Env) (w0 : World) (L0 : List Nat) (s : S) (a : Act) (w : World) : Prop := ∃ E L, R E s a w L ∧ Move E0 w0 L0 E w L
def Low (P : Program) (E0 : Env) (w0 : World) : Prop := (∀ fl b, E0.st fl b → b < w0.heap.size) ∧ Gk P E0

variable {E0 : Env} {w0 : World} {L0 : List Nat} {o : Oper} {next : Act → World → Prop} {Q : Exit → Act → World → Prop}

/-- What the evaluation of an operation says of it. -/
inductive OpR (P : Program) (E : Env) (s : S) (a : Act) (w : World) (L : List Nat) (K : S → AV → Prop) (o : Oper) : Prop where
  | value {q : Bool} (m : Sem Value) (hrun : ∀ cv w', m.run P w = .ok cv w' → (execOp a.eval o).run P w = .ok (.value cv) w') (hq : stillO o.op = true → q = true) (hd : DidG q E s a w L K (m.run P w))
  | skip {s' : S} {E' : Env} {w' : World} {L' : List Nat} (hs : stillO o.op = false) (hK : K s' .undef) (hR : R E' s' a w' L') (hm : Move E w L E' w' L') (hrun : (execOp a.eval o).run P w = .ok .skip w')
  | call (hs : stillO o.op = false) (hd : DidC P E a w L K ((execOp a.eval o).run P w))
theorem val_t (m : Sem Value) (hrun : ∀ cv w', m.run P w = .ok cv w' → (execOp a.eval o).run P w = .ok (.value cv) w') (hd : DidG true E s a w L K (m.run P w)) : OpR P E s a w L K o := .value m hrun (fun _ => rfl) hd
theorem val_f (m : Sem Value) (hns : stillO o.op = false) (hrun : ∀ cv w', m.run P w = .ok cv w' → (execOp a.eval o).run P w = .ok (.value cv) w') (hd : Did E s a w L K (m.run P w)) : OpR P E s a w L K o := .value m hrun (fun h => by rw [hns] at h; cases h) hd

theorem lift_v {m : Sem Value} {cv : Value} {w' : World} (h : m.run P w = .ok cv w') : (do pure (Next.value (← m)) : Sem Next).run P w = .ok (.value cv) w' := by
  rw [Sem.run_bind, h]; rfl

theorem map_toArray {xs : Array Operand} (f : Operand → Value) : (xs.map f).toList = xs.toList.map f := by simp
theorem parts_toArray {xs : Array (Nat × Operand)} (f : Operand → Value) : (xs.toList.map fun p => (p.1, f p.2)).toArray = xs.map fun (i, x) => (i, f x) := by
  apply Array.toList_inj.1; simp

theorem array_of_toList {α : Type} {xs : Array α} {l : List α} (h : xs.toList = l) : xs = l.toArray := by subst h; rfl

theorem append_did (hR : R E s a w L) {t ty e : TypeId} (hk : kindT P t = .slice e) {x y : AV} {cx cy : Value} (hx : Rep E x cx []) (hy : Rep E y cy [])
    (h : outW Sp (appendO s (zok P e) (szT P e) (byT P e) x y) K) : Did E s a w L K ((Builtin.append_ #[t, t] ty #[cx, cy]).run P w) := by
  cases x
  case row id n off len =>
    simp only [appendO] at h
    obtain ⟨xsz, xs, hA, hsrc⟩ := els_src hR hy h
    obtain ⟨r, hr, hB⟩ := outW_okO hA
    split at hB
    · rename_i hln
      obtain ⟨⟨hzk, rfl, rfl⟩, hC⟩ := hB
      subst hln
      exact appK_did hR hk hr hsrc hzk hx hC
    · exact appendOver_did hR hk hr hsrc hx hB
  case rowc id n off len => exact appendC_did hR hk hx hy h
  all_goals exact h.elim

theorem builtin_did (hR : R E s a w L) {b : Builtin} {ts : Array TypeId} {ty : TypeId} {args : List AV} {cargs : Array Value} (ha : RepL E args cargs.toList []) (h : outW Sp (builtinO P b ts s args) K) :
    ∃ m : Sem Value, (∀ cs, builtin b ts ty cs cargs = (do pure (.value (← m)))) ∧ ∃ q, (b = .len ∨ b = .min ∨ b = .max → q = true) ∧ DidG q E s a w L K (m.run P w) := by
  have two : ∀ {x y : AV}, args = [x, y] → ∃ cx cy, cargs = #[cx, cy] ∧ Rep E x cx [] ∧ Rep E y cy [] := by
    rintro x y rfl
    obtain ⟨cx, r1, l1, l2, e1, hl, h1, h2⟩ := ha.inv
    obtain ⟨cy, r2, l3, l4, rfl, hl2, h3, h4⟩ := h2.inv
    obtain ⟨rfl, rfl⟩ : l1 = [] ∧ l2 = [] := by simpa using hl.symm
    obtain ⟨rfl, rfl⟩ : l3 = [] ∧ l4 = [] := by simpa using hl2.symm
    cases h4
    exact ⟨cx, cy, array_of_toList e1, h1, h3⟩
  have one : ∀ {x : AV}, args = [x] → ∃ cx, cargs = #[cx] ∧ Rep E x cx [] := by
    rintro x rfl
    obtain ⟨cx, r1, l1, l2, e1, hl, h1, h2⟩ := ha.inv
    obtain ⟨rfl, rfl⟩ : l1 = [] ∧ l2 = [] := by simpa using hl.symm
    cases h2
    exact ⟨cx, array_of_toList e1, h1⟩
  unfold builtinO at h
  split at h
  · rename_i x
    obtain ⟨cx, rfl, hx⟩ := one rfl
    obtain ⟨t, ht, hA⟩ := outW_okO h
    unfold one1 at ht
    split at ht
    · rename_i t' hts
      injection ht with ht
      subst ht
      obtain rfl := array_of_toList hts
      exact ⟨_, fun _ => rfl, true, fun _ => rfl, len_did hR hx hA⟩
    · cases ht
  · rename_i x y
    obtain ⟨cx, cy, rfl, hx, hy⟩ := two rfl
    obtain ⟨t, ht, hA⟩ := outW_okO h
    obtain ⟨e, he, hB⟩ := outW_okO hA
    unfold two2 at ht
    split at ht
    · rename_i t' u hts
      split at ht
      · rename_i heq
        subst heq
        injection ht with ht
        subst ht
        obtain rfl := array_of_toList hts
        have hk : kindT P t' = .slice e := by
          unfold elemK at he
          split at he
          · rename_i e' hk; injection he with he; subst he; exact hk
          · cases he
        exact ⟨_, fun _ => rfl, false, fun h => by simp at h, append_did hR hk hx hy hB⟩
      · cases ht
    · cases ht
  · rename_i x y
    obtain ⟨cx, cy, rfl, hx, hy⟩ := two rfl
    obtain ⟨t, ht, hA⟩ := outW_okO h
    obtain ⟨e, he, hB⟩ := outW_okO hA
    unfold two2 at ht
    split at ht
    · rename_i t' u hts
      split at ht
      · rename_i heq
        subst heq
        injection ht with ht
        subst ht
        obtain rfl := array_of_toList hts
        have hk : kindT P t' = .slice e := by
          unfold elemK at he
          split at he
          · rename_i e' hk; injection he with he; subst he; exact hk
          · cases he
        exact ⟨_, fun _ => rfl, false, fun h => by simp at h, copy_did hR hk hx hy hB⟩
      · cases ht
    · cases ht
  · rename_i x
    obtain ⟨cx, rfl, hx⟩ := one rfl
    obtain ⟨t, ht, hA⟩ := outW_okO h
    obtain ⟨e, he, hB⟩ := outW_okO hA
    unfold one1 at ht
    split at ht
    · rename_i t' hts
      injection ht with ht
      subst ht
      obtain rfl := array_of_toList hts
      have hk : kindT P t' = .slice e := by
        unfold elemK at he
        split at he
        · rename_i e' hk; injection he with he; subst he; exact hk
        · cases he
      exact ⟨_, fun _ => rfl, false, fun h => by simp at h, clear_did hR hk hx hB⟩
    · cases ht
  · rename_i x y
    obtain ⟨cx, cy, rfl, hx, hy⟩ := two rfl
    have := minmax_did (P := P) (mx := false) (ts := ts) (ty := ty) hR hx hy h
    exact ⟨_, fun _ => rfl, true, fun _ => rfl, by simpa using this⟩
  · rename_i x y
    obtain ⟨cx, cy, rfl, hx, hy⟩ := two rfl
    have := minmax_did (P := P) (mx := true) (ts := ts) (ty := ty) hR hx hy h
    exact ⟨_, fun _ => rfl, true, fun _ => rfl, by simpa using this⟩
  · exact h.elim

theorem nilCheck_shape {x : AV} {cx : Value} (hx : Rep E x cx []) (h : outW Sp (nilCheckO s x) K) : (∃ p, cx = .pointer (some p)) ∨ ∃ f b c, cx = .func (.func f) b c := by
  unfold nilCheckO at h
  split at h
  · cases hx; exact .inl ⟨_, rfl⟩
  · cases hx with | elp hg ho hn hv h => exact .inl hv
  · cases hx; exact .inl ⟨_, rfl⟩
  · cases hx; exact .inr ⟨_, _, _, rfl⟩
  · exact h.elim

theorem op_did (hSp : ∀ f t r o, Sp f t r o → Spec P f t r o) (hG : Gk P E) (hR : R E s a w L) (h : outW Sp (opO P s o.type o.op) K) : OpR P E s a w L K o := by
  unfold opO at h
  split at h
  · -- move
    rename_i x ho
    obtain ⟨v, hv, hA⟩ := outW_okO h
    exact val_t (pure (a.eval x)) (fun cv w' hr => by simp only [execOp, ho]; simp only [Sem.run_pure, Result.ok.injEq] at hr ⊢; obtain ⟨rfl, rfl⟩ := hr; exact ⟨rfl, rfl⟩) (unf_did hR ((hR.eval hv).nilT _) hA)
  · -- assign
    rename_i x ho
    obtain ⟨v, hv, hA⟩ := outW_okO h
    exact val_t (pure (a.eval x)) (fun cv w' hr => by simp only [execOp, ho]; simp only [Sem.run_pure, Result.ok.injEq] at hr ⊢; obtain ⟨rfl, rfl⟩ := hr; exact ⟨rfl, rfl⟩) (unf_did hR ((hR.eval hv).nilT _) hA)
  · -- pick
    rename_i c x y ho
    obtain ⟨vc, hc, hA⟩ := outW_okO h
    obtain ⟨vx, hx, hB⟩ := outW_okO hA
    obtain ⟨vy, hy, hC⟩ := outW_okO hB
    refine val_t (do pure (if ← asBool (a.eval c) then a.eval x else a.eval y)) (fun cv w' hr => ?_) (pick_did hR (hR.eval hc) (hR.eval hx) (hR.eval hy) hC)
    simp only [execOp, ho]
    have := lift_v hr
    simpa [Sem.run_bind] using this
  · -- alloc
    rename_i e ho
    exact val_f _ (by rw [ho]; rfl) (fun cv w' hr => by simp only [execOp, ho]; exact lift_v hr) (alloc_did hR e h)
  · -- box
    rename_i t x ho
    obtain ⟨v, hv, hA⟩ := outW_okO h
    exact val_f _ (by rw [ho]; rfl) (fun cv w' hr => by simp only [execOp, ho]; exact lift_v hr) (box_did hR t (hR.eval hv) hA)
  · -- build
    rename_i t parts ho
    obtain ⟨fs, hfs, hA⟩ := outW_okO h
    obtain ⟨z, hz, hB⟩ := outW_okO hA
    obtain ⟨cs, hcs, hC⟩ := outW_okO hB
    obtain ⟨hfo, hD⟩ := hC
    have := build_did hR hfs hz hfo hcs hD
    rw [parts_toArray] at this
    exact val_t _ (fun cv w' hr => by simp only [execOp, ho]; exact lift_v hr) this
  · -- load
    rename_i t p ho
    obtain ⟨v, hv, hA⟩ := outW_okO h
    exact val_t _ (fun cv w' hr => by simp only [execOp, ho]; exact lift_v hr) (load_did hR (hR.eval hv) hA)
  · -- store
    rename_i t p x ho
    obtain ⟨vp, hp, hA⟩ := outW_okO h
    obtain ⟨v, hv, hB⟩ := outW_okO hA
    obtain ⟨hpos, hC⟩ := hB
    obtain ⟨s', E', w', L', hK, hR', hm, hr⟩ := store_did hR hpos (hR.eval hp) ((hR.eval hv).nilT t) hC
    exact .skip (by rw [ho]; rfl) hK hR' hm (by simp only [execOp, ho]; rw [Sem.run_bind, hr]; rfl)
  · -- nilCheck
    rename_i x ho
    obtain ⟨v, hv, hA⟩ := outW_okO h
    obtain ⟨hd, _⟩ := nilCheck_did (P := P) hR (hR.eval hv) hA
    have hshape := nilCheck_shape (hR.eval hv) hA
    refine val_t (pure (a.eval x)) (fun cv w' hr => ?_) hd
    simp only [Sem.run_pure, Result.ok.injEq] at hr
    obtain ⟨rfl, rfl⟩ := hr
    simp only [execOp, ho]
    rcases hshape with ⟨p, hp⟩ | ⟨f, b1, b2, hp⟩ <;> rw [hp] <;> rfl
  · -- binOp
    rename_i op t x y pos ho
    obtain ⟨vx, hx, hA⟩ := outW_okO h
    obtain ⟨vy, hy, hB⟩ := outW_okO hA
    exact val_t _ (fun cv w' hr => by simp only [execOp, ho]; exact lift_v hr) (bin_did (ox := x) (oy := y) hR (hR.eval hx) (hR.eval hy) hB)
  · rename_i op pos x ho
    obtain ⟨v, hv, hA⟩ := outW_okO h
    exact val_t _ (fun cv w' hr => by simp only [execOp, ho]; exact lift_v hr) (un_did hR (hR.eval hv) hA)
  · rename_i src dst x ho
    obtain ⟨v, hv, hA⟩ := outW_okO h
    exact val_t _ (fun cv w' hr => by simp only [execOp, ho]; exact lift_v hr) (conv_did hR (hR.eval hv) hA)
  · -- makeFunc
    rename_i f first caps ho
    obtain ⟨vs, hvs, hA⟩ := outW_okO h
    obtain ⟨hfirst, hB⟩ := hA
    have hfe : first = #[] := array_of_toList hfirst
    subst hfe
    have hrep : Rep E (.clo f vs) (.func (.func f) #[] (caps.map a.eval)) [] := .clo (by rw [map_toArray]; exact opnds_eval hR hvs)
    exact val_t (Instr.makeFunc (.func f) #[] (caps.map a.eval)) (fun cv w' hr => by simp only [execOp, ho]; exact lift_v (by simpa using hr)) (did_ok hR hB hrep)
  · -- fieldAddr
    rename_i t x f ho
    obtain ⟨v, hv, hA⟩ := outW_okO h
    exact val_t _ (fun cv w' hr => by simp only [execOp, ho]; exact lift_v hr) (fieldAddr_did hR (hR.eval hv) hA)
  · obtain ⟨v, hv, hA⟩ := outW_okO h
    exact hA.elim
  · rename_i t x i ho
    obtain ⟨vx, hx, hA⟩ := outW_okO h
    obtain ⟨vi, hi, hB⟩ := outW_okO hA
    exact val_t _ (fun cv w' hr => by simp only [execOp, ho]; exact lift_v hr) (idxAddr_did hR (hR.eval hx) (hR.eval hi) hB)
  · rename_i t x i ho
    obtain ⟨vx, hx, hA⟩ := outW_okO h
    obtain ⟨vi, hi, hB⟩ := outW_okO hA
    exact val_t _ (fun cv w' hr => by simp only [execOp, ho]; exact lift_v hr) (index_did hR (hR.eval hx) (hR.eval hi) hB)
  · rename_i t x lo hi mx ho
    obtain ⟨vx, hx, hA⟩ := outW_okO h
    exact val_t _ (fun cv w' hr => by simp only [execOp, ho]; exact lift_v hr) (slice_did hR (hR.eval hx) hA)
  · rename_i x i ho
    obtain ⟨v, hv, hA⟩ := outW_okO h
    exact val_t _ (fun cv w' hr => by simp only [execOp, ho]; exact lift_v hr) (extract_did hR (hR.eval hv) hA)
  · -- buildSlice
    rename_i t n parts ho
    obtain ⟨fs, hfs, hA⟩ := outW_okO h
    obtain ⟨e, he, hB⟩ := outW_okO hA
    have hk : kindT P t = .slice e := by
      unfold elemK at he
      split at he
      · rename_i e' hk; injection he with he; subst he; exact hk
      · cases he
    have := buildSlice_did hR hk hfs hB
    rw [parts_toArray] at this
    exact val_f _ (by rw [ho]; rfl) (fun cv w' hr => by simp only [execOp, ho]; exact lift_v hr) this
  · -- makeMap
    rename_i t x ho
    obtain ⟨kk, hkk, hA⟩ := outW_okO h
    obtain ⟨v, hv, hB⟩ := outW_okO hA
    obtain ⟨n, hn, hC⟩ := outW_okO hB
    exact val_f _ (by rw [ho]; rfl) (fun cv w' hr => by simp only [execOp, ho]; exact lift_v hr) (makeMap_did hR (makeMap_runS hkk (hR.eval hv) hn) hC)
  · rename_i t ho
    exact val_f _ (by rw [ho]; rfl) (fun cv w' hr => by simp only [execOp, ho]; exact lift_v hr) (makeMap_did hR (makeMap_run (t := t)) h)
  · -- mapUpdate
    rename_i t m k x ho
    obtain ⟨vm, hm, hA⟩ := outW_okO h
    obtain ⟨vk, hk, hB⟩ := outW_okO hA
    obtain ⟨v, hv, hC⟩ := outW_okO hB
    obtain ⟨kk, hkk, hD⟩ := outW_okO hC
    obtain ⟨lk, hlk, hF⟩ := outW_okO hD
    obtain ⟨s', E', w', L', hK, hR', hm', hr⟩ := mapSet_did hR (hR.eval hm) (hR.eval hk) ((hR.eval hv).nilT kk.2) hkk hlk hF
    exact .skip (by rw [ho]; rfl) hK hR' hm' (by simp only [execOp, ho]; rw [Sem.run_bind, hr]; rfl)
  · -- lookup
    rename_i t m k ok ho
    obtain ⟨vm, hm, hA⟩ := outW_okO h
    obtain ⟨vk, hk, hB⟩ := outW_okO hA
    obtain ⟨r, hr, hC⟩ := outW_okO hB
    obtain ⟨kk, hkk, hD⟩ := outW_okO hC
    obtain ⟨lk, hlk, hF⟩ := outW_okO hD
    obtain ⟨v, hv, hz, hG⟩ := outW_okO hF
    exact val_t _ (fun cv w' hr => by simp only [execOp, ho]; exact lift_v hr) (lookup_did hR (hR.eval hm) (hR.eval hk) hr hkk hlk hv hz.1 hG)
  · -- builtin
    rename_i b args argTypes ho
    obtain ⟨vs, hvs, hA⟩ := outW_okO h
    obtain ⟨m, hm, q, hq, hd⟩ := builtin_did (ty := o.type) hR (cargs := args.map a.eval) (by rw [map_toArray]; exact opnds_eval hR hvs) hA
    refine .value m (fun cv w' hr => ?_) (fun hs => hq (by rw [ho] at hs; revert hs; cases b <;> simp [stillO])) hd
    simp only [execOp, ho, resolve, Sem.run_bind, Sem.run_pure, Result.andThen_ok, invoke]
    rw [hm]
    exact lift_v hr
  · -- call
    rename_i f args argTypes ho
    obtain ⟨vf, hf, hA⟩ := outW_okO h
    obtain ⟨vs, hvs, hB⟩ := outW_okO hA
    have hd := call_did hSp hG hR (hR.eval hf) (cvs := args.map a.eval) (by rw [map_toArray]; exact opndsT_eval hR hvs) hB
    refine .call (by rw [ho]; rfl) ?_
    simp only [execOp, ho, resolve]
    exact hd
  · exact h.elim

theorem op_wp (hSp : ∀ f t r o, Sp f t r o → Spec P f t r o) (hR : R E s a w L) (h0 : Low P E0 w0) (hS : Move E0 w0 L0 E w L) (h : outW Sp (opO P s o.type o.op) K)
    (hn : ∀ s' v a' w', K s' v → Rel E0 w0 L0 (s'.put o.dst v) a' w' → next a' w') : o.wp P a w next Q := by
  unfold Oper.wp
  cases op_did hSp (h0.2.ext hS.ext) hR h with
  | value m hrun hq hd =>
    obtain ⟨s', v, E', w', L', cv, hK, hR', hm, hv, hr, _⟩ := hd
    rw [hrun cv w' hr, Oper.upon_value]
    exact hn s' v _ _ hK ⟨E', L', hR'.put hv, hS.trans hm h0.1 hS.own.off⟩
  | skip hs hK hR' hm hrun =>
    rw [hrun, Oper.upon_skip]
    exact hn _ .undef _ _ hK ⟨_, _, hR'.put (.undef _), hS.trans hm h0.1 hS.own.off⟩
  | call hs hd =>
    obtain ⟨g, cargs, hrun, hcalls⟩ := hd
    rw [hrun, Oper.upon_enter]
    refine hcalls.mono fun e w' he => ?_
    obtain ⟨cv, rfl, s', v, E', L', hK, hR', hm, hv⟩ := he
    exact hn s' v _ _ hK ⟨E', L', hR'.put hv, hS.trans hm h0.1 hS.own.off⟩

/-- An operation that reads alone, ahead of those that write. -/
theorem op_still (hSp : ∀ f t r o, Sp f t r o → Spec P f t r o) (hst : stillO o.op = true) (hR : R E s a w L) (h0 : Low P E0 w0) (hS : Move E0 w0 L0 E w L) (h : outW Sp (opO P s o.type o.op) K) {next : Act → Prop}
    (hn : ∀ s' v a', K s' v → Rel E0 w0 L0 (s'.put o.dst v) a' w → next a') : o.still P a w next := by
  cases op_did hSp (h0.2.ext hS.ext) hR h with
  | value m hrun hq hd =>
    obtain ⟨s', v, E', w', L', cv, hK, hR', hm, hv, hr, hw⟩ := hd
    obtain rfl := hw (hq hst)
    unfold Oper.still
    rw [hrun cv _ hr, Oper.stillUpon_value]
    exact hn s' v _ hK ⟨E', L', hR'.put hv, hS.trans hm h0.1 hS.own.off⟩
  | skip hs _ _ _ _ => rw [hst] at hs; cases hs
  | call hs _ => rw [hst] at hs; cases hs

/-- An operation that reads alone, in a region that draws. -/
theorem op_quiet (hSp : ∀ f t r o, Sp f t r o → Spec P f t r o) (hst : stillO o.op = true) (hR : R E s a w L) (h0 : Low P E0 w0) (hS : Move E0 w0 L0 E w L) (h : outW Sp (opO P s o.type o.op) K) {next : Act → Prop}
    (hn : ∀ s' v a', K s' v → Rel E0 w0 L0 (s'.put o.dst v) a' w → next a') : o.quiet P a (fun w' => w' = w) next := by
  cases op_did hSp (h0.2.ext hS.ext) hR h with
  | value m hrun hq hd =>
    obtain ⟨s', v, E', w', L', cv, hK, hR', hm, hv, hr, hw⟩ := hd
    obtain rfl := hw (hq hst)
    refine ⟨cv, ?_, hn s' v _ hK ⟨E', L', hR'.put hv, hS.trans hm h0.1 hS.own.off⟩⟩
    rintro _ rfl
    unfold Oper.quietAt
    rw [hrun cv _ hr]
    exact ⟨rfl, rfl⟩
  | skip hs _ _ _ _ => rw [hst] at hs; cases hs
  | call hs _ => rw [hst] at hs; cases hs
end Go.Ev

/-
What may be forgotten, and named otherwise.
-/
set_option linter.unusedVariables false
set_option linter.unusedSimpArgs false
namespace Go.Ev
variable {P : Program} {E : Env} {s : S} {a : Act} {w : World} {L : List Nat}
variable {E0 : Env} {w0 : World} {L0 : List Nat}

theorem sw_sw (i j k : Nat) : sw i j (sw i j k) = k := by unfold sw; repeat' split <;> simp_all
theorem renL_len (i j : Nat) : ∀ cs, (renL i j cs).length = cs.length
  | [] => rfl
  | c :: cs => by simp [renL, renL_len i j cs]
theorem renL_append (i j : Nat) : ∀ (as bs : List AV), renL i j (as ++ bs) = renL i j as ++ renL i j bs
  | [], _ => rfl
  | a :: as, bs => by simp [renL, renL_append i j as bs]
theorem cellsOf_ren (i j : Nat) (e : AV) : cellsOf (ren i j e) = renL i j (cellsOf e) := by cases e <;> simp [ren, cellsOf, renL]
theorem flat_ren (i j : Nat) : ∀ (els : List AV), flat (renL i j els) = renL i j (flat els)
  | [] => rfl
  | e :: els => by
    have := flat_ren i j els
    unfold flat at *
    simp only [renL, List.flatMap_cons, renL_append, cellsOf_ren, this]
theorem C1_ren (i j : Nat) (e : AV) : C1 (ren i j e) = C1 e := by cases e <;> simp [ren, C1]
theorem allC1_ren (i j : Nat) : ∀ (cs : List AV), allC1 (renL i j cs) = allC1 cs
  | [] => rfl
  | c :: cs => by simp [renL, allC1, allC1_ren i j cs, C1_ren]
theorem renL_mem {i j : Nat} : ∀ {els : List AV} {v : AV}, v ∈ renL i j els → ∃ e ∈ els, v = ren i j e
  | [], _, h => by cases h
  | e :: els, v, h => by
    simp only [renL, List.mem_cons] at h
    rcases h with rfl | h
    · exact ⟨e, by simp, rfl⟩
    · obtain ⟨x, hx, rfl⟩ := renL_mem h; exact ⟨x, by simp [hx], rfl⟩
theorem okE_ren {i j sz : Nat} {els : List AV} (h : ∀ e ∈ els, okE sz e) : ∀ e ∈ renL i j els, okE sz e := by
  intro e he
  obtain ⟨x, hx, rfl⟩ := renL_mem he
  unfold okE
  rw [cellsOf_ren, renL_len, allC1_ren]
  exact h x hx

def swE (i j : Nat) (E : Env) : Env := { E with g := fun k => E.g (sw i j k) }
theorem swE_g {i j id : Nat} {x : Loc} (h : E.g id = some x) : (swE i j E).g (sw i j id) = some x := by
  show E.g (sw i j (sw i j id)) = some x
  rw [sw_sw]; exact h

theorem Rep.ren {i j : Nat} : (∀ {a : AV} {v : Value} {l : List Nat}, Rep E a v l → Rep (swE i j E) (Ev.ren i j a) v l) := by
  intro a v l h
  refine @Rep.rec E (fun a v l _ => Rep (swE i j E) (Ev.ren i j a) v l) (fun as vs l _ => RepL (swE i j E) (renL i j as) vs l)
    (fun b => .bool b) (fun k n => .int k n) (fun s h => .str s h) .nilp .nilf .nili .nilm (fun v => .undef v)
    ?_ ?_ ?_ ?_ ?_ ?_ ?_ (fun fl sz a cap => .lst0 fl sz a cap) ?_ (fun sz => .olst0 sz) ?_ ?_ ?_ ?_ ?_ .nil ?_ a v l h
  · intro id j l b h1 h2 h3; exact .loc (swE_g h1) h2 h3
  · intro id n i j l v h1 h2 h3 hv h4; exact .elp (swE_g h1) h2 h3 hv h4
  · intro id n i j l v h1 h2 h3 hv h4; exact .row (swE_g h1) h2 h3 hv h4
  · intro id n i j l v h1 h2 h3 hv h4; exact .rowc (swE_g h1) h2 h3 hv h4
  · intro id l b h1 h2 h3; exact .mp (swE_g h1) h2 h3
  · intro cs b o vs h1 h2 _ ih; exact .fz h1 h2 ih
  · intro e j b cells ty fr l h1 h2 hc _ ih; exact .optr h1 h2 (by rw [cellsOf_ren, allC1_ren]; exact hc) (by rw [cellsOf_ren]; exact ih)
  · intro fl sz els b o cap vs h1 h2 h3 h4 h5 h6 _ ih
    have hl := renL_len i j els
    have := @Rep.lst (swE i j E) fl sz (renL i j els) b o cap vs (by intro h; rw [h] at hl; exact h1 (List.eq_nil_of_length_eq_zero (by simpa using hl.symm))) (by omega) (by omega) h4 (okE_ren h5) h6 (by rw [flat_ren]; exact ih)
    rw [hl] at this
    exact this
  · intro sz els b cap cells ty fr l h1 h2 h3 h4 h5 h6 _ ih
    have hl := renL_len i j els
    have := @Rep.olst (swE i j E) sz (renL i j els) b cap cells ty fr l h1 h2 h3 (by omega) (by omega) (okE_ren h6) (by rw [flat_ren, hl]; exact ih)
    rw [hl] at this
    exact this
  · intro cs vs l _ ih; exact .agg ih
  · intro cs vs l _ ih; exact .tup ih
  · intro f cs vs l _ ih; exact .clo ih
  · intro ks vs es clock b hb _ _ ih1 ih2; exact .omp hb ih1 ih2
  · intro a v as vs l m _ _ ih1 ih2; exact .cons ih1 ih2
theorem RepL.ren {i j : Nat} : ∀ {as : List AV} {vs : List Value} {l : List Nat}, RepL E as vs l → RepL (swE i j E) (renL i j as) vs l
  | _, _, _, .nil => .nil
  | _, _, _, .cons h t => .cons h.ren t.ren

theorem BlkRep.ren {i j id : Nat} {blk : Blk} {l : List Nat} (h : BlkRep E id blk l) : BlkRep (swE i j E) (sw i j id) (renB i j blk) l := by
  cases h with
  | obj h0 ho hx hb hf h1 h => exact .obj (swE_g h0) ho hx hb hf (by rw [cellsOf_ren, allC1_ren]; exact h1) (by rw [cellsOf_ren]; exact h.ren)
  | nil h0 ho hx hc hn hz => exact .nil (swE_g h0) ho hx hc hn hz
  | row h0 ho hx hn hs hb hf hc hl hm hz h => exact .row (swE_g h0) ho hx (by rw [renL_len]; exact hn) hs hb hf hc (by rw [renL_len]; exact hl) (by rw [renL_len]; exact hm) (okE_ren hz) (by rw [flat_ren, renL_len]; exact h.ren)
  | frz h0 ho hx hn hs hb hst hl hm hz h => exact .frz (swE_g h0) ho hx (by rw [renL_len]; exact hn) hs hb hst (by rw [renL_len]; exact hl) (by rw [renL_len]; exact hm) (okE_ren hz) (by rw [flat_ren, renL_len]; exact h.ren)
  | map h0 ho hx hb hk hv => exact .map (swE_g h0) ho hx hb hk.ren hv.ren

theorem Blks.ren {i j : Nat} : ∀ {b : Mem} {L : List Nat}, Blks E b L → Blks (swE i j E) (renM i j b) L
  | _, _, .nil => .nil
  | _, _, .cons h t => .cons h.ren t.ren

theorem look_renT {i j k : Nat} {v : AV} : ∀ {t : List (Nat × AV)}, look k (renT i j t) = some v → ∃ u, look k t = some u ∧ v = ren i j u
  | [], h => by simp [renT, look] at h
  | (k', u) :: r, h => by
    simp only [renT, look] at h ⊢
    by_cases hk : k' = k
    · rw [if_pos hk] at h ⊢; injection h with h; exact ⟨u, rfl, h.symm⟩
    · rw [if_neg hk] at h ⊢; exact look_renT h
theorem keys_renM {i j : Nat} : ∀ {b : Mem}, (renM i j b).map (·.1) = (b.map (·.1)).map (sw i j)
  | [] => rfl
  | (k, u) :: r => by simp [renM, keys_renM (b := r)]

theorem nodup_map_sw {i j : Nat} : ∀ {l : List Nat}, l.Nodup → (l.map (sw i j)).Nodup
  | [], _ => List.nodup_nil
  | k :: l, h => by
    simp only [List.nodup_cons] at h
    simp only [List.map_cons, List.nodup_cons]
    refine ⟨fun hm => ?_, nodup_map_sw h.2⟩
    obtain ⟨x, hx, e⟩ := List.mem_map.1 hm
    have : x = k := by have := congrArg (sw i j) e; rwa [sw_sw, sw_sw] at this
    exact h.1 (this ▸ hx)

theorem Blks.sub {b b' : Mem} (hs : b'.Sublist b) : ∀ {L : List Nat}, Blks E b L → ∃ L', Blks E b' L' ∧ L'.Sublist L := by
  induction hs with
  | slnil => intro L h; cases h; exact ⟨[], .nil, List.Sublist.refl _⟩
  | cons x _ ih =>
    intro L h
    cases h with
    | cons h t =>
      obtain ⟨L', h1, h2⟩ := ih t
      exact ⟨L', h1, h2.trans (List.sublist_append_right _ _)⟩
  | cons_cons x _ ih =>
    intro L h
    cases h with
    | cons h t =>
      obtain ⟨L', h1, h2⟩ := ih t
      exact ⟨_, .cons h h1, List.Sublist.append (List.Sublist.refl _) h2⟩

theorem Blks.perm {b b' : Mem} (hp : b'.Perm b) : ∀ {L : List Nat}, Blks E b L → ∃ L', Blks E b' L' ∧ L'.Perm L := by
  have key : ∀ {b b' : Mem}, b.Perm b' → ∀ {L : List Nat}, Blks E b L → ∃ L', Blks E b' L' ∧ L'.Perm L := by
    intro b b' hp
    induction hp with
    | nil => intro L h; exact ⟨L, h, .refl _⟩
    | cons x _ ih =>
      intro L h
      cases h with
      | cons h t =>
        obtain ⟨L', h1, h2⟩ := ih t
        exact ⟨_, .cons h h1, h2.append_left _⟩
    | swap x y l =>
      intro L h
      cases h with
      | @cons id1 blk1 l1 m1 r1 h t =>
        cases t with
        | @cons id2 blk2 l2 m2 r2 h' t =>
          refine ⟨_, .cons h' (.cons h t), ?_⟩
          rw [← List.append_assoc, ← List.append_assoc]
          exact List.Perm.append_right _ List.perm_append_comm
    | trans _ _ ih1 ih2 =>
      intro L h
      obtain ⟨L1, h1, p1⟩ := ih1 h
      obtain ⟨L2, h2, p2⟩ := ih2 h1
      exact ⟨L2, h2, p2.trans p1⟩
  exact fun {L} h => key hp.symm h

theorem Own.sub' {L L' : List Nat} (h : Own E L) (hn : L'.Nodup) (hs : ∀ b ∈ L', b ∈ L) : Own E L' := ⟨hn, fun b hb => h.lt b (hs b hb), fun b hb => h.off b (hs b hb), h.stlt, h.sub⟩
theorem Move.less {L L' : List Nat} (h : Move E0 w0 L0 E w L) (hn : L'.Nodup) (hs : ∀ b ∈ L', b ∈ L) : Move E0 w0 L0 E w L' :=
  ⟨h.ext, h.heap, h.size, h.keep, h.stN, fun b hb => h.new b (hs b hb), h.own.sub' hn hs, h.os, h.tape, h.output, h.stF⟩

theorem Weak.rel {n0 : Nat} {s s' : S} (h : Weak n0 s s') (hg0 : ∀ id x, E0.g id = some x → id < n0) (hlow : ∀ fl b, E0.st fl b → b < w0.heap.size) : Rel E0 w0 L0 s a w → Rel E0 w0 L0 s' a w := by
  induction h with
  | @drop s s' hm ht hb hn =>
    rintro ⟨E, L, hR, hM⟩
    obtain ⟨L', h1, h2⟩ := hR.blk.sub hb
    have hnd := h2.nodup hR.own.nodup
    have hs := fun b hb => h2.subset (a := b) hb
    exact ⟨E, L', ⟨hR.heap, hm.trans hR.m, fun k v hk => (ht k v hk).elim (fun e => e ▸ .undef _) (hR.tmp k v), h1, (hb.map _).nodup hR.keys, hR.own.sub' hnd hs, fun id x hx => Nat.lt_of_lt_of_le (hR.gn id x hx) hn, hR.defers⟩, hM.less hnd hs⟩
  | @perm s b hb =>
    rintro ⟨E, L, hR, hM⟩
    obtain ⟨L', h1, h2⟩ := hR.blk.perm hb
    have hnd := h2.nodup_iff.2 hR.own.nodup
    have hs := fun b hb => (h2.mem_iff (a := b)).1 hb
    exact ⟨E, L', ⟨hR.heap, hR.m, hR.tmp, h1, ((hb.map _).nodup_iff).2 hR.keys, hR.own.sub' hnd hs, hR.gn, hR.defers⟩, hM.less hnd hs⟩
  | @swap s i j hi hj hi' hj' =>
    rintro ⟨E, L, hR, hM⟩
    have hown : Own (swE i j E) L := ⟨hR.own.nodup, hR.own.lt, hR.own.off, hR.own.stlt, hR.own.sub⟩
    refine ⟨swE i j E, L, ⟨hR.heap, hR.m, fun k v hk => ?_, hR.blk.ren, ?_, hown, fun id x hx => ?_, hR.defers⟩, ⟨⟨hM.ext.heap, hM.ext.st, hM.ext.sub, fun id x hx => ?_⟩, hM.heap, hM.size, hM.keep, hM.stN, hM.new, hown, hM.os, hM.tape, hM.output, hM.stF⟩⟩
    · obtain ⟨u, hu, rfl⟩ := look_renT hk
      exact (hR.tmp k u hu).ren
    · show ((renM i j s.b).map (·.1)).Nodup
      rw [keys_renM]
      exact nodup_map_sw hR.keys
    · have := hR.gn _ _ hx
      show id < s.n
      unfold sw at this
      split at this
      · omega
      · split at this
        · omega
        · exact this
    · have h1 := hg0 id x hx
      have h2 : sw i j id = id := by unfold sw; rw [if_neg (by omega), if_neg (by omega)]
      obtain ⟨x', hx', h⟩ := hM.ext.g id x hx
      exact ⟨x', by show E.g (sw i j id) = _; rw [h2]; exact hx', h⟩
  | @opn s id e he =>
    rintro ⟨E, L, hR, hM⟩
    obtain ⟨pp, l, q, hL, hb, hrest⟩ := hR.blk.get he
    cases hb with
    | @obj _ x b cells ty fr l hg ho hx hb hf h1 hh =>
      obtain ⟨E', L', hR', hm, _⟩ := open_cells hR (lb := [b]) (l1 := []) (l2 := l) (l3 := []) (mid := cellsOf e) (v2 := cells.toList) hL hrest (look_in he) (by simp) hh (fun cs => .obj (reCells e cs)) (fun g old cs hcs hall hlen => by
        have hc := cells_re hlen (hall h1)
        exact .obj (x := x) (old _ _ hg) ho hx hb hf (by rw [hc]; exact hall h1) (by rw [hc]; exact hcs))
      exact ⟨E', L', hR', hM.trans hm hlow hM.own.off⟩
  | trans _ _ ih1 ih2 => exact fun h => ih2 (ih1 h)
end Go.Ev
