/-
Calls: arguments handed over, results taken in.
-/
import Derived.Test.YthglbpibfhfgnaaGreatDoorEvCall
set_option linter.unusedVariables false
set_option linter.unusedSimpArgs false
namespace Go.Ev
variable {Sp : FuncId → List AV → AV → List AV → Prop} {P : Program} {E : Env} {s : S} {a : Act} {w : World} {L : List Nat} {K : S → AV → Prop}

/-- A part of a row as a list that stands for a time. -/
theorem window_lst (hR : R E s a w L) {b : Mem} {M : List Nat} (hb : Blks E b M) {id sz off len : Nat} {els : List AV} {fr : Bool} (hl : look id b = some (.row sz els fr)) {x : Loc} (hg : E.g id = some x) {ao : Option Addr} {c : Nat}
    (hle : off + len ≤ els.length) (hc : len ≤ c) (hat : 0 < len → ao = x.blk.map fun b => ⟨b, off * x.sz, none⟩) (hno : NoOL ((els.drop off).take len)) {E' : Env} (hx : Ext E E' []) (hst : ∀ b, x.blk = some b → E'.st false b) (hh : E'.h = E.h) :
    Rep E' (.lst false sz (lowL ((els.drop off).take len))) (.slice ao len c) [] := by
  have hlen : ((els.drop off).take len).length = len := by simp; omega
  by_cases hemp : len = 0
  · subst hemp; simp only [List.take_zero, lowL]; exact .lst0 _ _ _ _
  · have main : ∀ {b0 : Nat} {cells : Array Value} {ty : TypeId} {fz : Nat × Nat} {l : List Nat}, x.blk = some b0 → E.h[b0]? = some (.cells cells ty fz) → x.sz = sz → (∀ e ∈ els, okE sz e) → els.length ≤ MX → RepL E (flat els) (cells.toList.take (els.length * sz)) l →
        Rep E' (.lst false sz (lowL ((els.drop off).take len))) (.slice ao len c) [] := by
      intro b0 cells ty fz l hxb hbw hsz hz hm hrep
      have hao := hat (by omega)
      rw [hxb] at hao
      subst hao
      simp only [Option.map_some]
      have hf := flat_drop_take (l := off) (n := len) hz
      have e1 : flat els = (flat els).take (off * sz) ++ (((flat els).drop (off * sz)).take (len * sz) ++ (flat els).drop (off * sz + len * sz)) := by
        rw [← List.drop_drop, List.take_append_drop, List.take_append_drop]
      have hflen := flat_len hz
      rw [e1] at hrep
      obtain ⟨v1, v23, l1, l23, hct, rfl, g1, g23⟩ := hrep.split
      obtain ⟨v2, v3, l2, l3, rfl, rfl, g2, g3⟩ := g23.split
      obtain rfl := noOL g2 (by rw [← hf]; exact noOL_flat hno)
      have hmul : off * sz + len * sz ≤ els.length * sz := by rw [← Nat.add_mul]; exact Nat.mul_le_mul_right _ hle
      have hv1 : v1.length = off * sz := by rw [← g1.length, List.length_take, hflen]; omega
      have hll := lowL_length ((els.drop off).take len)
      have key : Rep E' (.lst false sz (lowL ((els.drop off).take len))) (.slice (some ⟨b0, off * x.sz, none⟩) (lowL ((els.drop off).take len)).length c) [] := by
        refine .lst (cap := c) (vs := v2) (fun h' => by rw [h'] at hll; simp at hll; omega) (by omega) (by omega) (hst b0 hxb) ?_ ?_ ?_
        · intro e he
          obtain ⟨y, hy, rfl⟩ := lowL_mem he
          unfold okE
          rw [cellsOf_low, lowL_length, allC1_lowL]
          exact hz y (List.mem_of_mem_drop (List.mem_of_mem_take hy))
        · rw [hh, hsz]
          exact at_take hbw hct hv1
        · rw [flat_lowL, hf]
          have hsub' : ∀ c, E'.st true c → E'.st false c ∨ True := fun _ _ => .inr trivial
          exact (RepL.low hR.own.sub g2).ext hx
      rw [hll, hlen] at key
      exact key
    obtain ⟨p, l, q, hL, hbr, _⟩ := hb.get hl
    cases hbr with
    | nil => simp at hle; omega
    | @row _ _ x' b0 cells ty fz l hg' ho hx' hn hs hb' hf hc' hl' hm hz h =>
      obtain rfl : x = x' := by rw [hg] at hg'; injection hg'
      exact main hx' hb' hs hz hm h
    | @frz _ _ x' b0 cells ty fz hg' ho hx' hn hs hb' hst' hl' hm hz h =>
      obtain rfl : x = x' := by rw [hg] at hg'; injection hg'
      exact main hx' hb' hs hz hm h

def lentE (E : Env) (lent M : List Nat) : Env := { E with st := fun fl b => E.st fl b ∨ fl = false ∧ lent ≠ [] ∧ b ∈ M }
theorem lentE_ext (hs : ∀ b, E.st true b → E.st false b) (lent M : List Nat) (l : List Nat) : Ext E (lentE E lent M) l :=
  ⟨fun _ _ => rfl, fun _ _ h => .inl h, hs, fun id x h => ⟨x, h, .inl rfl⟩⟩
theorem lentE_mono (hs : ∀ b, E.st true b → E.st false b) {l1 l2 M : List Nat} (h : l1 ≠ [] → l2 ≠ []) (l : List Nat) : Ext (lentE E l1 M) (lentE E l2 M) l :=
  ⟨fun _ _ => rfl, fun fl b hb => hb.imp (fun h => h) fun ⟨h1, h2, h3⟩ => ⟨h1, h h2, h3⟩, fun b hb => (by
    rcases hb with hb | ⟨hb, _⟩
    · exact .inl (hs b hb)
    · cases hb), fun id x h => ⟨x, h, .inl rfl⟩⟩
theorem ne_left {l1 l2 : List Nat} (h : l1 ≠ []) : l1 ++ l2 ≠ [] := by cases l1 <;> simp_all
theorem ne_right {l1 l2 : List Nat} (h : l2 ≠ []) : l1 ++ l2 ≠ [] := by cases l2 <;> simp_all

theorem bd_low : ∀ (v : AV), Bd 0 v → Bd 0 (low v) := by
  intro v
  refine AV.rec (motive_1 := fun v => Bd 0 v → Bd 0 (low v)) (motive_2 := fun vs => BdL 0 vs → BdL 0 (lowL vs)) ?_ ?_ ?_ ?_ ?_ ?_ ?_ ?_ ?_ ?_ ?_ ?_ ?_ ?_ ?_ ?_ ?_ ?_ ?_ ?_ ?_ ?_ ?_ v <;> intros <;> simp_all [low, lowL, Bd, BdL]
theorem bdL_low {els : List AV} (h : BdL 0 els) : BdL 0 (lowL els) := by
  refine bdL_of fun v hv => ?_
  obtain ⟨e, he, rfl⟩ := lowL_mem hv
  exact bd_low e (bdL_mem h e he)

theorem blk_in {M : List Nat} {b : Mem} (hb : Blks E b M) (hs : ∀ b, E.st true b → E.st false b) {id sz : Nat} {els : List AV} {fr : Bool} (hl : look id b = some (.row sz els fr)) {x : Loc} (hg : E.g id = some x) {lent : List Nat} (hne : lent ≠ []) :
    (∀ c, x.blk = some c → (lentE E lent M).st false c) ∧ x.n = els.length ∧ els.length ≤ x.cap := by
  obtain ⟨p, l, q, hL, hbr, _⟩ := hb.get hl
  cases hbr with
  | nil hg' ho hx hc hn hz =>
    rw [hg] at hg'; injection hg' with hg'; subst hg'
    exact ⟨(fun c h => by rw [hx] at h; cases h), by simpa using hn, by simp⟩
  | row hg' ho hx hn hs' hb' hf hc hl' =>
    rw [hg] at hg'; injection hg' with hg'; subst hg'
    refine ⟨fun c h => ?_, hn, hl'⟩
    rw [hx] at h; injection h with h; subst h
    exact .inr ⟨rfl, hne, by rw [hL]; simp⟩
  | frz hg' ho hx hn hs' hb' hst hl' =>
    rw [hg] at hg'; injection hg' with hg'; subst hg'
    refine ⟨fun c h => ?_, hn, hl'⟩
    rw [hx] at h; injection h with h; subst h
    exact .inl (hs _ hst)

theorem at_drop {h : Array Obj} {b : Nat} {cells : Array Value} {ty : TypeId} {fr : Nat × Nat} (hb : h[b]? = some (.cells cells ty fr)) {v1 v2 : List Value} {j : Nat} (hc : cells.toList = v1 ++ v2) (hj : v2 ≠ [] → v1.length = j) : At h b j v2 := by
  intro k v hk
  have hne : v2 ≠ [] := by rintro rfl; simp at hk
  unfold cellAt
  rw [hb]
  show cells[j + k]? = some v
  rw [← Array.getElem?_toList, hc, ← hj hne, List.getElem?_append_right (by omega), Nat.add_sub_cancel_left]
  exact hk

theorem rep_fz (hs : ∀ b, E.st true b → E.st false b) {M : List Nat} {e : AV} {j b1 : Nat} {cells : Array Value} {ty : TypeId} {fr : Nat × Nat} {lc : List Nat} (hb : E.h[b1]? = some (.cells cells ty fr)) (hm : b1 ∈ M) (hrep : RepL E (cellsOf e) cells.toList lc)
    (hlc : ∀ c ∈ lc, c ∈ M) {ids : List Nat} {i : Nat} {cs' : List AV} (hok : ∀ cv l, RepL E ((cellsOf e).drop j) cv l → (∀ c ∈ l, c ∈ M) → RepL (lentE E ids M) cs' cv [] ∧ BdL 0 cs') :
    Rep (lentE E (i :: ids) M) (.fz cs') (.pointer (some ⟨b1, j, none⟩)) [] ∧ Bd 0 (.fz cs') := by
  have e1 : cellsOf e = (cellsOf e).take j ++ (cellsOf e).drop j := (List.take_append_drop j _).symm
  rw [e1] at hrep
  obtain ⟨v1, v2, l1, l2, hc, rfl, g1, g2⟩ := hrep.split
  obtain ⟨h1, h2⟩ := hok v2 l2 g2 fun c hc => hlc c (by simp [hc])
  refine ⟨.fz (vs := v2) (.inr ⟨rfl, by simp, hm⟩) (at_drop hb hc fun hne => ?_) (h1.ext (lentE_mono hs (fun _ => by simp) _)), by simpa [Bd] using h2⟩
  have hl1 := g1.length
  have hl2 := g2.length
  rw [List.length_take] at hl1
  rw [List.length_drop] at hl2
  have : 0 < v2.length := List.length_pos_iff.2 hne
  omega

theorem lend_ok_both (hR : R E s a w L) {b : Mem} {M : List Nat} (hb : Blks E b M) : ∀ k,
    (∀ v v' ids p, lend k b v = some (v', ids, p) → p → ∀ cv l, Rep E v cv l → (∀ c ∈ l, c ∈ M) → Rep (lentE E ids M) v' cv [] ∧ Bd 0 v') ∧
    (∀ v v' ids p, lendL k b v = some (v', ids, p) → p → ∀ cv l, RepL E v cv l → (∀ c ∈ l, c ∈ M) → RepL (lentE E ids M) v' cv [] ∧ BdL 0 v')
  | 0 => ⟨fun v v' ids p h => by simp [lend] at h, fun v v' ids p h => by simp [lendL] at h⟩
  | k + 1 => by
    obtain ⟨ih1, ih2⟩ := lend_ok_both hR hb k
    have hs := hR.own.sub
    constructor
    · intro v v' ids p h hp cv l hv hl
      have dflt : some (v, ([] : List Nat), Bd 0 v ∧ NoO v) = some (v', ids, p) → Rep (lentE E ids M) v' cv [] ∧ Bd 0 v' := by
        intro h
        simp only [Option.some.injEq, Prod.mk.injEq] at h
        obtain ⟨rfl, rfl, rfl⟩ := h
        have := noO_both hv hp.2
        subst this
        exact ⟨hv.ext (lentE_ext hs _ _ _), hp.1⟩
      cases v <;> simp only [lend] at h
      case row id n off len =>
        obtain ⟨r, hr, h⟩ := Option.map_eq_some_iff.1 h
        simp only [Prod.mk.injEq] at h
        obtain ⟨rfl, rfl, rfl⟩ := h
        obtain ⟨hn, hle, hbd, hno⟩ := hp
        have hlk := rowAt_look hr
        cases hv with
        | @row _ _ _ _ x _ hg ho hn' hv' hh =>
          obtain ⟨h1, h2, h3⟩ := blk_in hb hs hlk hg (lent := [id]) (by simp)
          obtain ⟨ao, rfl, hat⟩ := hh (by omega)
          exact ⟨window_lst hR hb hlk hg (by omega) (by omega) (fun _ => hat (.inl (by omega))) hno (lentE_ext hs _ _ _) h1 rfl, bdL_low (bdL_of fun v hv => bdL_mem hbd v (List.mem_of_mem_drop (List.mem_of_mem_take hv)))⟩
      case rowc id n off len =>
        obtain ⟨r, hr, h⟩ := Option.map_eq_some_iff.1 h
        simp only [Prod.mk.injEq] at h
        obtain ⟨rfl, rfl, rfl⟩ := h
        obtain ⟨hn, hle, hbd, hno⟩ := hp
        have hlk := rowAt_look hr
        cases hv with
        | @rowc _ _ _ _ x _ hg ho hn' hv' hh =>
          obtain ⟨h1, h2, h3⟩ := blk_in hb hs hlk hg (lent := [id]) (by simp)
          obtain ⟨ao, rfl, hat⟩ := hh (by omega)
          exact ⟨window_lst hR hb hlk hg (by omega) (Nat.le_refl _) hat hno (lentE_ext hs _ _ _) h1 rfl, bdL_low (bdL_of fun v hv => bdL_mem hbd v (List.mem_of_mem_drop (List.mem_of_mem_take hv)))⟩
      case loc id j =>
        obtain ⟨e, he, h⟩ := Option.bind_eq_some_iff.1 h
        obtain ⟨r, hr, h⟩ := Option.map_eq_some_iff.1 h
        simp only [Prod.mk.injEq] at h
        obtain ⟨rfl, rfl, rfl⟩ := h
        obtain ⟨blk, hlk, hobj⟩ := Option.bind_eq_some_iff.1 he
        cases blk <;> simp [getObj] at hobj
        subst hobj
        obtain ⟨pp, lb, q, hL, hbr, hrest⟩ := hb.get hlk
        cases hv with
        | @loc _ _ x b1 hg ho hb1 =>
          cases hbr with
          | @obj _ x' b2 cells ty fr lc hg' ho' hx' hb' hf h1 hh =>
            obtain rfl : x = x' := by rw [hg] at hg'; injection hg'
            obtain rfl : b1 = b2 := by rw [hb1] at hx'; injection hx'
            exact rep_fz hs hb' (by rw [hL]; simp) hh (fun c hc => by rw [hL]; simp [hc]) fun cv l h1 h2 => ih2 _ _ _ _ hr hp cv l h1 h2
      case optr e j =>
        obtain ⟨r, hr, h⟩ := Option.map_eq_some_iff.1 h
        simp only [Prod.mk.injEq] at h
        obtain ⟨rfl, rfl, rfl⟩ := h
        cases hv with
        | @optr _ _ b1 cells ty fr lc hb' hf h1 hh =>
          exact rep_fz hs hb' (hl _ (by simp)) hh (fun c hc => hl c (by simp [hc])) fun cv l h1 h2 => ih2 _ _ _ _ hr hp cv l h1 h2
      case olst sz els =>
        simp only [Option.some.injEq, Prod.mk.injEq] at h
        obtain ⟨rfl, rfl, rfl⟩ := h
        obtain ⟨hbd, hno⟩ := hp
        refine ⟨?_, by simpa [Bd] using bdL_low hbd⟩
        cases hv with
        | olst0 => exact .lst0 _ _ _ _
        | @olst _ _ b1 cap cells ty fr lc hb' hf hc hlen hm hz hh =>
          have hlc := noOL hh (noOL_flat hno)
          subst hlc
          have hll := lowL_length els
          by_cases hemp : els = []
          · subst hemp; exact .lst0 _ _ _ _
          · have key : Rep (lentE E (els.map fun _ => 0) M) (.lst false sz (lowL els)) (.slice (some ⟨b1, 0, none⟩) (lowL els).length cap) [] := by
              refine .lst (cap := cap) (vs := cells.toList.take (els.length * sz)) (fun h' => hemp (List.eq_nil_of_length_eq_zero (by rw [← hll, h']; rfl))) (by omega) (by omega) (.inr ⟨rfl, by simpa using hemp, hl _ (by simp)⟩) ?_ (fun j v hj => ?_) ?_
              · intro e he
                obtain ⟨y, hy, rfl⟩ := lowL_mem he
                unfold okE
                rw [cellsOf_low, lowL_length, allC1_lowL]
                exact hz y hy
              · show cellAt E.h b1 (0 + j) = some v
                unfold cellAt
                rw [hb', Nat.zero_add]
                rw [List.getElem?_take] at hj
                split at hj
                · show cells[j]? = some v; rw [← Array.getElem?_toList]; exact hj
                · cases hj
              · rw [flat_lowL]
                exact (RepL.low hs hh).ext (lentE_ext hs _ _ _)
            rw [hll] at key
            exact key
      case agg cs =>
        obtain ⟨r, hr, h⟩ := Option.map_eq_some_iff.1 h
        simp only [Prod.mk.injEq] at h
        obtain ⟨rfl, rfl, rfl⟩ := h
        cases hv with
        | agg hv => obtain ⟨h1, h2⟩ := ih2 _ _ _ _ hr hp _ _ hv hl; exact ⟨.agg h1, by simpa [Bd] using h2⟩
      case clo f cs =>
        obtain ⟨r, hr, h⟩ := Option.map_eq_some_iff.1 h
        simp only [Prod.mk.injEq] at h
        obtain ⟨rfl, rfl, rfl⟩ := h
        cases hv with
        | clo hv => obtain ⟨h1, h2⟩ := ih2 _ _ _ _ hr hp _ _ hv hl; exact ⟨.clo h1, by simpa [Bd] using h2⟩
      all_goals exact dflt h
    · intro v v' ids p h hp cv l hv hl
      cases v with
      | nil =>
        simp only [lendL, Option.some.injEq, Prod.mk.injEq] at h
        obtain ⟨rfl, rfl, rfl⟩ := h
        cases hv
        exact ⟨.nil, by simp [BdL]⟩
      | cons v vs =>
        simp only [lendL, Option.bind_eq_some_iff, Option.map_eq_some_iff] at h
        obtain ⟨x, hx, y, hy, h⟩ := h
        simp only [Prod.mk.injEq] at h
        obtain ⟨rfl, rfl, rfl⟩ := h
        obtain ⟨cv1, cvs, l1, l2, rfl, rfl, h1, h2⟩ := hv.inv
        obtain ⟨g1, g2⟩ := ih1 _ _ _ _ hx hp.1 _ _ h1 fun c hc => hl c (by simp [hc])
        obtain ⟨g3, g4⟩ := ih2 _ _ _ _ hy hp.2 _ _ h2 fun c hc => hl c (by simp [hc])
        exact ⟨.cons (l := []) (m := []) (g1.ext (lentE_mono hs ne_left _)) (g3.ext (lentE_mono hs ne_right _)), by simp only [BdL]; exact ⟨g2, g4⟩⟩

/-- The arguments behind giveL: those that are given are closed by themselves. -/
inductive Mix (E : Env) : List Bool → List AV → List Value → List Nat → Prop where
  | nil (gm : List Bool) : Mix E gm [] [] []
  | give {g : List Bool} {v : AV} {cv : Value} {l m : List Nat} {vs : List AV} {cvs : List Value} (h : Rep E v cv l) (hb : Bd 0 v) (t : Mix E g vs cvs m) : Mix E (true :: g) (v :: vs) (cv :: cvs) (l ++ m)
  | keep {g : List Bool} {v : AV} {cv : Value} {m : List Nat} {vs : List AV} {cvs : List Value} (h : Rep E v cv []) (t : Mix E g vs cvs m) : Mix E (false :: g) (v :: vs) (cv :: cvs) m
  | rest {v : AV} {cv : Value} {m : List Nat} {vs : List AV} {cvs : List Value} (h : Rep E v cv []) (t : Mix E [] vs cvs m) : Mix E [] (v :: vs) (cv :: cvs) m

structure GiveOk (E : Env) (gm : List Bool) (vs' : List AV) (cvs : List Value) (b b' : Mem) (L lp Lr rest : List Nat) : Prop where
  rep : Mix E gm vs' cvs lp
  blk : Blks E b' Lr
  perm : (lp ++ (Lr ++ rest)).Perm L
  keys : (b'.map (·.1)).Sublist (b.map (·.1))

theorem giveL_ok : ∀ {gm : List Bool} {vs vs' : List AV} {b b' : Mem} {M : List Nat} {p : Prop} {cvs : List Value}, RepL E vs cvs [] → Blks E b M → (b.map (·.1)).Nodup → giveL gm b vs = some (vs', b', p) → p →
    ∃ lp Lr rest, GiveOk E gm vs' cvs b b' M lp Lr rest
  | gm, [], vs', b, b', M, p, cvs, hv, hb, hk, h, hp => by
    cases hv
    have h : some (([] : List AV), b, True) = some (vs', b', p) := by
      cases gm with
      | nil => simpa [giveL] using h
      | cons g gm => cases g <;> simpa [giveL] using h
    simp only [Option.some.injEq, Prod.mk.injEq] at h
    obtain ⟨rfl, rfl, rfl⟩ := h
    exact ⟨[], M, [], ⟨.nil _, hb, by simp, List.Sublist.refl _⟩⟩
  | [], v :: vs, vs', b, b', M, p, cvs, hv, hb, hk, h, hp => by
    obtain ⟨cv1, cvs', l1, l2, rfl, hl, h1, h2⟩ := hv.inv
    obtain ⟨rfl, rfl⟩ : l1 = [] ∧ l2 = [] := by simpa using hl.symm
    simp only [giveL, Option.map_eq_some_iff] at h
    obtain ⟨y, hy, h⟩ := h
    simp only [Prod.mk.injEq] at h
    obtain ⟨rfl, rfl, rfl⟩ := h
    obtain ⟨lp, Lr, rest, hok⟩ := giveL_ok (vs' := y.1) (b' := y.2.1) (p := y.2.2) h2 hb hk hy hp
    exact ⟨lp, Lr, rest, ⟨.rest h1 hok.rep, hok.blk, hok.perm, hok.keys⟩⟩
  | false :: gm, v :: vs, vs', b, b', M, p, cvs, hv, hb, hk, h, hp => by
    obtain ⟨cv1, cvs', l1, l2, rfl, hl, h1, h2⟩ := hv.inv
    obtain ⟨rfl, rfl⟩ : l1 = [] ∧ l2 = [] := by simpa using hl.symm
    simp only [giveL, Option.map_eq_some_iff] at h
    obtain ⟨y, hy, h⟩ := h
    simp only [Prod.mk.injEq] at h
    obtain ⟨rfl, rfl, rfl⟩ := h
    obtain ⟨lp, Lr, rest, hok⟩ := giveL_ok (vs' := y.1) (b' := y.2.1) (p := y.2.2) h2 hb hk hy hp
    exact ⟨lp, Lr, rest, ⟨.keep h1 hok.rep, hok.blk, hok.perm, hok.keys⟩⟩
  | true :: gm, v :: vs, vs', b, b', M, p, cvs, hv, hb, hk, h, hp => by
    obtain ⟨cv1, cvs', l1, l2, rfl, hl, h1, h2⟩ := hv.inv
    obtain ⟨rfl, rfl⟩ : l1 = [] ∧ l2 = [] := by simpa using hl.symm
    simp only [giveL, Option.bind_eq_some_iff, Option.map_eq_some_iff] at h
    obtain ⟨x, hx, y, hy, h⟩ := h
    simp only [Prod.mk.injEq] at h
    obtain ⟨rfl, rfl, rfl⟩ := h
    obtain ⟨lp1, Lr1, rest1, hok1⟩ := (fold_ok_both (E := E) 30).1 b v x.1 x.2.1 x.2.2 hx hp.1 cv1 [] M h1 hb hk
    obtain ⟨lp2, Lr2, rest2, hok⟩ := giveL_ok (vs' := y.1) (b' := y.2.1) (p := y.2.2) h2 hok1.blk (hok1.keys.nodup hk) hy hp.2
    refine ⟨lp1 ++ lp2, Lr2, rest2 ++ rest1, ⟨.give hok1.rep hok1.bd hok.rep, hok.blk, ?_, hok.keys.trans hok1.keys⟩⟩
    refine List.perm_iff_count.2 fun z => ?_
    have e1 := List.perm_iff_count.1 hok1.perm z
    have e2 := List.perm_iff_count.1 hok.perm z
    simp only [List.count_append, List.count_nil] at e1 e2 ⊢
    omega

theorem lendA_ok (hR : R E s a w L) {b : Mem} {M : List Nat} (hb : Blks E b M) {gm : List Bool} {vs : List AV} {cvs : List Value} {l : List Nat} (hv : Mix E gm vs cvs l) :
    ∀ {vs' : List AV} {ids : List Nat} {p : Prop}, lendA gm b vs = some (vs', ids, p) → p → RepL (lentE E ids M) vs' cvs l ∧ BdL 0 vs' := by
  have hs := hR.own.sub
  induction hv with
  | nil gm =>
    intro vs' ids p h hp
    have h : some (([] : List AV), ([] : List Nat), True) = some (vs', ids, p) := by
      cases gm with
      | nil => simpa [lendA] using h
      | cons g gm => cases g <;> simpa [lendA] using h
    simp only [Option.some.injEq, Prod.mk.injEq] at h
    obtain ⟨rfl, rfl, rfl⟩ := h
    exact ⟨.nil, by simp [BdL]⟩
  | give h1 hbd t ih =>
    intro vs' ids p h hp
    simp only [lendA, Option.map_eq_some_iff] at h
    obtain ⟨y, hy, h⟩ := h
    simp only [Prod.mk.injEq] at h
    obtain ⟨rfl, rfl, rfl⟩ := h
    obtain ⟨g1, g2⟩ := ih (vs' := y.1) (ids := y.2.1) (p := y.2.2) hy hp
    exact ⟨.cons (h1.ext (lentE_ext hs _ _ _)) g1, by simp only [BdL]; exact ⟨hbd, g2⟩⟩
  | keep h1 t ih =>
    intro vs' ids p h hp
    simp only [lendA, Option.bind_eq_some_iff, Option.map_eq_some_iff] at h
    obtain ⟨x, hx, y, hy, h⟩ := h
    simp only [Prod.mk.injEq] at h
    obtain ⟨rfl, rfl, rfl⟩ := h
    obtain ⟨g1, g2⟩ := ih (vs' := y.1) (ids := y.2.1) (p := y.2.2) hy hp.2
    obtain ⟨g3, g4⟩ := (lend_ok_both hR hb 30).1 _ x.1 x.2.1 x.2.2 hx hp.1 _ [] h1 (fun c hc => by cases hc)
    exact ⟨.cons (l := []) (g3.ext (lentE_mono hs ne_left _)) (g1.ext (lentE_mono hs ne_right _)), by simp only [BdL]; exact ⟨g4, g2⟩⟩
  | rest h1 t ih =>
    intro vs' ids p h hp
    simp only [lendA, Option.bind_eq_some_iff, Option.map_eq_some_iff] at h
    obtain ⟨x, hx, y, hy, h⟩ := h
    simp only [Prod.mk.injEq] at h
    obtain ⟨rfl, rfl, rfl⟩ := h
    obtain ⟨g1, g2⟩ := ih (vs' := y.1) (ids := y.2.1) (p := y.2.2) hy hp.2
    obtain ⟨g3, g4⟩ := (lend_ok_both hR hb 30).1 _ x.1 x.2.1 x.2.2 hx hp.1 _ [] h1 (fun c hc => by cases hc)
    exact ⟨.cons (l := []) (g3.ext (lentE_mono hs ne_left _)) (g1.ext (lentE_mono hs ne_right _)), by simp only [BdL]; exact ⟨g4, g2⟩⟩
end Go.Ev
