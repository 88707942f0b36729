/-
A call: entered with its arguments, left with its result and what it left in memory.
-/
import Derived.Test.YthglbpibfhfgnaaGreatDoorEvCall3
set_option linter.unusedVariables false
set_option linter.unusedSimpArgs false
namespace Go.Ev
variable {Sp : FuncId → List AV → AV → List AV → Prop} {P : Program} {E : Env} {s : S} {a : Act} {w : World} {L : List Nat} {K : S → AV → Prop}

theorem fold_keys : ∀ k, (∀ b v v' b' p, fold k b v = some (v', b', p) → (b'.map (·.1)).Sublist (b.map (·.1))) ∧ (∀ b v v' b' p, foldL k b v = some (v', b', p) → (b'.map (·.1)).Sublist (b.map (·.1)))
  | 0 => ⟨fun b v v' b' p h => by simp [fold] at h, fun b v v' b' p h => by simp [foldL] at h⟩
  | k + 1 => by
    obtain ⟨ih1, ih2⟩ := fold_keys k
    have hdel : ∀ id (b : Mem), ((delB id b).map (·.1)).Sublist (b.map (·.1)) := fun id b => by rw [keys_delB]; exact List.erase_sublist
    constructor
    · intro b v v' b' p h
      have dflt : ∀ {v0 : AV} {q : Prop}, some (v0, b, q) = some (v', b', p) → (b'.map (·.1)).Sublist (b.map (·.1)) := fun h => by
        simp only [Option.some.injEq, Prod.mk.injEq] at h; obtain ⟨_, rfl, _⟩ := h; exact List.Sublist.refl _
      have ddel : ∀ {v0 : AV} {q : Prop} {id : Nat}, some (v0, delB id b, q) = some (v', b', p) → (b'.map (·.1)).Sublist (b.map (·.1)) := fun h => by
        simp only [Option.some.injEq, Prod.mk.injEq] at h; obtain ⟨_, rfl, _⟩ := h; exact hdel _ _
      have dmap : ∀ {b0 : Mem} {cs : List AV} {f : List AV → AV}, (foldL k b0 cs).map (fun r => (f r.1, r.2.1, r.2.2)) = some (v', b', p) → (b0.map (·.1)).Sublist (b.map (·.1)) → (b'.map (·.1)).Sublist (b.map (·.1)) := fun h h0 => by
        obtain ⟨r, hr, h⟩ := Option.map_eq_some_iff.1 h
        simp only [Prod.mk.injEq] at h
        obtain ⟨_, rfl, _⟩ := h
        exact (ih2 _ _ _ _ _ hr).trans h0
      cases v <;> simp only [fold] at h
      case row id n off len =>
        split at h
        · exact dflt h
        · exact ddel h
        · cases h
      case loc id j =>
        split at h
        · rename_i e hl; exact dmap (f := fun r => .optr (reCells e r) j) h (hdel _ _)
        · cases h
      case mp id =>
        split at h
        · exact ddel h
        · cases h
      case agg cs => exact dmap (f := .agg) h (List.Sublist.refl _)
      case tup cs => exact dmap (f := .tup) h (List.Sublist.refl _)
      case clo f cs => exact dmap (f := .clo f) h (List.Sublist.refl _)
      all_goals exact dflt h
    · intro b v v' b' p h
      cases v with
      | nil => simp only [foldL, Option.some.injEq, Prod.mk.injEq] at h; obtain ⟨_, rfl, _⟩ := h; exact List.Sublist.refl _
      | cons v vs =>
        simp only [foldL, Option.bind_eq_some_iff, Option.map_eq_some_iff] at h
        obtain ⟨x, hx, y, hy, h⟩ := h
        simp only [Prod.mk.injEq] at h
        obtain ⟨_, rfl, _⟩ := h
        exact (ih2 _ _ _ _ _ hy).trans (ih1 _ _ _ _ _ hx)

def Gone (b b' : Mem) (ids : List Nat) : Prop := ids.Nodup ∧ (∀ id ∈ ids, id ∈ b.map (·.1) ∧ id ∉ b'.map (·.1)) ∧ (b'.map (·.1)).Sublist (b.map (·.1))
theorem Gone.nil {b b' : Mem} (h : (b'.map (·.1)).Sublist (b.map (·.1))) : Gone b b' [] := ⟨List.nodup_nil, (fun _ hh => by cases hh), h⟩
theorem Gone.step {b b1 b2 : Mem} {i1 i2 : List Nat} (h1 : Gone b b1 i1) (h2 : Gone b1 b2 i2) : Gone b b2 (i1 ++ i2) := by
  refine ⟨?_, fun id hid => ?_, h2.2.2.trans h1.2.2⟩
  · rw [List.nodup_append]
    refine ⟨h1.1, h2.1, fun x hx y hy e => ?_⟩
    subst e
    exact (h1.2.1 x hx).2 (h2.2.1 x hy).1
  · rcases List.mem_append.1 hid with h | h
    · exact ⟨(h1.2.1 id h).1, fun hm => (h1.2.1 id h).2 (h2.2.2.subset hm)⟩
    · exact ⟨h1.2.2.subset (h2.2.1 id h).1, (h2.2.1 id h).2⟩

theorem fold_gone {k : Nat} {b b' : Mem} {v v' : AV} {p : Prop} (h : fold k b v = some (v', b', p)) (hk : (b.map (·.1)).Nodup) : Gone b b' (idOf v) := by
  have hs := (fold_keys k).1 _ _ _ _ _ h
  cases v <;> first | exact Gone.nil hs | skip
  rename_i id j
  cases k with
  | zero => simp [fold] at h
  | succ k =>
    simp only [fold] at h
    split at h
    · rename_i e hl
      obtain ⟨r, hr, h⟩ := Option.map_eq_some_iff.1 h
      simp only [Prod.mk.injEq] at h
      obtain ⟨_, rfl, _⟩ := h
      refine ⟨by simp [idOf], fun i hi => ?_, hs⟩
      obtain rfl : i = id := by simpa [idOf] using hi
      refine ⟨look_mem hl, fun hm => ?_⟩
      have := ((fold_keys k).2 _ _ _ _ _ hr).subset hm
      rw [keys_delB] at this
      exact (List.Nodup.not_mem_erase hk) this
    · cases h
theorem foldL_gone : ∀ {k : Nat} {vs : List AV} {b b' : Mem} {v' : List AV} {p : Prop}, foldL k b vs = some (v', b', p) → (b.map (·.1)).Nodup → Gone b b' (vs.flatMap idOf)
  | 0, _, _, _, _, _, h, _ => by simp [foldL] at h
  | k + 1, [], b, b', v', p, h, hk => Gone.nil ((fold_keys (k + 1)).2 _ _ _ _ _ h)
  | k + 1, v :: vs, b, b', v', p, h, hk => by
    simp only [foldL, Option.bind_eq_some_iff, Option.map_eq_some_iff] at h
    obtain ⟨x, hx, y, hy, h⟩ := h
    simp only [Prod.mk.injEq] at h
    obtain ⟨_, rfl, _⟩ := h
    have h1 := fold_gone hx hk
    exact h1.step (foldL_gone hy (h1.2.2.nodup hk))
theorem fold_goneS {b b' : Mem} {v v' : AV} {p : Prop} (h : fold 30 b v = some (v', b', p)) (hk : (b.map (·.1)).Nodup) : Gone b b' (idsOf v) := by
  cases v <;> first | exact fold_gone h hk | skip
  rename_i f cs
  simp only [fold] at h
  obtain ⟨q, hq, e⟩ := Option.map_eq_some_iff.1 h
  simp only [Prod.mk.injEq] at e
  obtain ⟨_, rfl, _⟩ := e
  exact foldL_gone (v' := q.1) (b' := q.2.1) (p := q.2.2) hq hk
theorem giveL_gone : ∀ {gm : List Bool} {vs vs' : List AV} {b b' : Mem} {p : Prop}, giveL gm b vs = some (vs', b', p) → (b.map (·.1)).Nodup → Gone b b' (idsG gm vs)
  | gm, [], vs', b, b', p, h, hk => by
    have h : some (([] : List AV), b, True) = some (vs', b', p) := by
      cases gm with
      | nil => simpa [giveL] using h
      | cons g gm => cases g <;> simpa [giveL] using h
    simp only [Option.some.injEq, Prod.mk.injEq] at h
    obtain ⟨_, rfl, _⟩ := h
    have h2 : idsG gm [] = [] := by cases gm with
      | nil => rfl
      | cons g gm => cases g <;> rfl
    rw [h2]
    exact Gone.nil (List.Sublist.refl _)
  | [], v :: vs, vs', b, b', p, h, hk => by
    simp only [giveL, Option.map_eq_some_iff] at h
    obtain ⟨y, hy, h⟩ := h
    simp only [Prod.mk.injEq] at h
    obtain ⟨_, rfl, _⟩ := h
    have := giveL_gone (vs' := y.1) (b' := y.2.1) (p := y.2.2) hy hk
    have h2 : idsG [] vs = [] := by cases vs <;> rfl
    rw [h2] at this
    exact this
  | false :: gm, v :: vs, vs', b, b', p, h, hk => by
    simp only [giveL, Option.map_eq_some_iff] at h
    obtain ⟨y, hy, h⟩ := h
    simp only [Prod.mk.injEq] at h
    obtain ⟨_, rfl, _⟩ := h
    exact giveL_gone (gm := gm) (vs := vs) (vs' := y.1) (b' := y.2.1) (p := y.2.2) hy hk
  | true :: gm, v :: vs, vs', b, b', p, h, hk => by
    simp only [giveL, Option.bind_eq_some_iff, Option.map_eq_some_iff] at h
    obtain ⟨x, hx, y, hy, h⟩ := h
    simp only [Prod.mk.injEq] at h
    obtain ⟨_, rfl, _⟩ := h
    have h1 := fold_goneS (v' := x.1) (b' := x.2.1) (p := x.2.2) hx hk
    exact h1.step (giveL_gone (vs' := y.1) (b' := y.2.1) (p := y.2.2) hy (h1.2.2.nodup hk))

/-- What a call came to. -/
def DidC (P : Program) (E : Env) (a : Act) (w : World) (L : List Nat) (K : S → AV → Prop) (r : Result Next) : Prop :=
  ∃ g args, r = .ok (.enter g args) w ∧ Calls P g args w fun e w' => ∃ cv, e = .returned cv ∧ ∃ s' v E' L', K s' v ∧ R E' s' a w' L' ∧ Move E w L E' w' L' ∧ Rep E' v cv []

theorem call_did (hSp : ∀ f t r o, Sp f t r o → Spec P f t r o) (hR : R E s a w L) {f : AV} {vs : List AV} {cf : Value} {cvs : Array Value} (hf : Rep E f cf []) (hvs : RepL E vs cvs.toList []) (h : outW Sp (callO s f vs) K) :
    DidC P E a w L K ((do let d ← Deferred.ofValue cf cvs; invoke d.target d.args : Sem Next).run P w) := by
  cases f
  case clo g caps =>
    cases hf with
    | @clo _ _ ccaps _ hcaps =>
      simp only [callO] at h
      obtain ⟨gm, h⟩ := h
      obtain ⟨⟨gv, pb, gp⟩, hgive, h⟩ := okP_of h
      obtain ⟨⟨pv, lent, pp⟩, hpass, hneed1, hneed2, res, outs, hsp, hno, hK⟩ := okP_of h
      simp only at hgive hpass hneed1 hneed2 hno hK hsp
      obtain ⟨⟨fn, hfn, hname, hbody⟩, hspec⟩ := hSp _ _ _ _ hsp
      have hall : RepL E (vs ++ caps) (cvs ++ ccaps).toList [] := by
        have := hvs.append hcaps
        simpa using this
      have hh : E.h = w.heap := hR.heap
      obtain ⟨lp, Lr, rest, hok⟩ := giveL_ok hall hR.blk hR.keys hgive hneed1
      obtain ⟨hlrep, hlbd⟩ := lendA_ok hR hok.blk hok.rep hpass hneed2
      have hgone := giveL_gone hgive hR.keys
      have hndL : (lp ++ (Lr ++ rest)).Nodup := hok.perm.nodup_iff.2 hR.own.nodup
      have hlpL : ∀ b ∈ lp, b ∈ L := fun b hb => hok.perm.mem_iff.1 (by simp [hb])
      have hLrL : ∀ b ∈ Lr, b ∈ L := fun b hb => hok.perm.mem_iff.1 (by simp [hb])
      have hdis : ∀ b ∈ lp, b ∉ Lr := fun b hb hb' => (List.nodup_append.1 hndL).2.2 b hb b (by simp [hb']) rfl
      have hltL : ∀ b ∈ L, b < w.heap.size := fun b hb => by rw [← hh]; exact hR.own.lt b hb
      let st1 : Bool → Nat → Prop := (lentE E lent Lr).st
      have hst1lt : ∀ fl b, st1 fl b → b < w.heap.size := by
        intro fl b hb
        rcases hb with hb | ⟨_, _, hb⟩
        · rw [← hh]; exact hR.own.stlt _ _ hb
        · exact hltL b (hLrL b hb)
      have hst1T : ∀ b, st1 true b → E.st true b := fun b hb => by
        rcases hb with hb | ⟨hb, _⟩
        · exact hb
        · cases hb
      have hrep1 : RepL (bare w.heap st1) pv (cvs ++ ccaps).toList lp := by
        have h1 := hlrep
        have : lentE E lent Lr = { h := w.heap, st := st1, g := E.g } := by simp [lentE, hh, st1]
        rw [this] at h1
        exact h1.base hlbd
      have hown1 : Own (bare w.heap st1) lp := by
        refine ⟨(List.nodup_append.1 hndL).1, fun b hb => hltL b (hlpL b hb), fun b hb hs => ?_, hst1lt, fun b hb => .inl (hR.own.sub b (hst1T b hb))⟩
        rcases hs with hs | ⟨_, _, hs⟩
        · exact hR.own.off b (hlpL b hb) hs
        · exact hdis b hb hs
      refine ⟨g, cvs ++ ccaps, ?_, ?_⟩
      · have hsz : #[] ++ cvs = cvs := by simp
        simp only [Deferred.ofValue, Sem.run_bind, Sem.run_pure, Result.andThen_ok, invoke, callFunc, program, Sem.run, hfn, hname, hbody, Array.empty_append]
        simp [Sem.run_bind, Sem.run_pure, Result.andThen_ok, hfn, hname, hbody]
      · refine (hspec w st1 (cvs ++ ccaps) lp hrep1 hown1).mono fun e w' hpost => ?_
        obtain ⟨v, st', L', rfl, hrep', hown', hgrow⟩ := hpost
        refine ⟨v, rfl, ?_⟩
        let st2 : Bool → Nat → Prop := fun fl b => E.st fl b ∨ st' true b
        let E2 : Env := { h := w'.heap, st := st2, g := E.g }
        have hsub2 : ∀ b, st2 true b → st2 false b := fun b hb => hb.imp (hR.own.sub b) id
        have hext : ∀ l : List Nat, (∀ b ∈ l, b ∉ lp ∧ b < w.heap.size) → Ext E E2 l := fun l hl =>
          ⟨fun b hb => by
            rw [hh]
            rcases hb with hb | hb
            · exact hgrow.keep b (by rw [← hh]; exact hR.own.stlt _ _ hb) fun hm => hR.own.off b (hlpL b hm) hb
            · exact hgrow.keep b (hl b hb).2 (hl b hb).1,
          fun fl b hb => .inl hb, hR.own.sub, fun id x hx => ⟨x, hx, .inl rfl⟩⟩
        have hblk2 : Blks E2 pb Lr := hok.blk.ext (hext Lr fun b hb => ⟨fun hm => hdis b hm hb, hltL b (hLrL b hb)⟩) fun _ _ => rfl
        have conv : ∀ o cv l, (lent = [] ∨ NoF o) → Rep (bare w'.heap st') o cv l → Rep E2 o cv l := by
          intro o cv l hz hrep'
          have h2 : Rep (bare w'.heap st2) o cv l := by
            rcases hz with hno | hno
            · refine hrep'.ext ⟨fun _ _ => rfl, fun fl b hb => ?_, hown'.sub, fun id x hx => by cases hx⟩
              cases fl with
              | true => exact .inr hb
              | false =>
                rcases hgrow.stF b hb with h | h
                · rcases h with h | ⟨_, h, _⟩
                  · exact .inl h
                  · exact absurd hno h
                · exact .inr h
            · exact Rep.firm (E := bare w'.heap st') (E' := bare w'.heap st2) rfl (fun b hb => .inr hb) rfl hrep' hno
          exact h2.ext ⟨fun _ _ => rfl, fun _ _ h => h, hsub2, fun id x hx => by cases hx⟩
        obtain ⟨cv', cvs', lr, lo, e, rfl, hres, houts⟩ := hrep'.inv
        injection e with e1 e2
        subst e1 e2
        have hres := conv _ _ _ (hno.imp (fun h => h) fun h => h.1) hres
        have hndlrlo := hown'.nodup
        obtain ⟨L2, hback⟩ := backG_ok (E := E2) (E0 := E) (E1 := bare w'.heap st') (z := lent = []) (b := pb) (gm := gm) (fun id x hx => hx) conv hall houts (hno.imp (fun h => h) fun h => h.2) hblk2 (fun id hid => (hgone.2.1 id hid).2) hgone.1
        have hkeys2 := hback.keys (hok.keys.nodup hR.keys)
        have hlt2 : ∀ k ∈ (backG gm pb (vs ++ caps) outs).map (·.1), k < s.n := by
          intro k hk
          rcases hback.kk k hk with h | h
          · exact hR.keysLt k (hok.keys.subset h)
          · exact hR.keysLt k (hgone.2.1 k h).1
        obtain ⟨g', L3, hunf⟩ := unf_ok (E := E2) hsub2 res v _ s.n lr L2 hres hback.blk hR.gn hkeys2 hlt2
        have hL2 : ∀ b ∈ L2, b ∈ lo ++ Lr := hback.sub
        have hL3 : ∀ b ∈ L3, b ∈ lr ++ lo ∨ b ∈ Lr := fun b hb => by
          rcases List.mem_append.1 (hunf.perm.mem_iff.1 hb) with h | h
          · exact .inl (by simp [h])
          · rcases List.mem_append.1 (hL2 b h) with h | h
            · exact .inl (by simp [h])
            · exact .inr h
        have hdis2 : ∀ b ∈ lr ++ lo, b ∉ Lr := fun b hb hb' => by
          rcases hgrow.new b hb with h | h
          · exact hdis b h hb'
          · have := hltL b (hLrL b hb'); omega
        have hnd : (lr ++ (lo ++ Lr)).Nodup := by
          rw [← List.append_assoc, List.nodup_append]
          exact ⟨hndlrlo, (List.nodup_append.1 (List.nodup_append.1 hndL).2.1).1, fun x hx y hy e => hdis2 x hx (e ▸ hy)⟩
        have hndL2 : L2.Nodup := hback.nodup (List.nodup_append.1 hnd).2.1
        have hndL3 : L3.Nodup := by
          refine hunf.perm.nodup_iff.2 ?_
          rw [List.nodup_append]
          exact ⟨(List.nodup_append.1 hndlrlo).1, hndL2, fun x hx y hy e => (List.nodup_append.1 hnd).2.2 x hx y (hL2 y hy) e⟩
        have hst2N : ∀ fl b, st2 fl b → E.st fl b ∨ b ∈ lp ∨ w.heap.size ≤ b := by
          intro fl b hb
          rcases hb with hb | hb
          · exact .inl hb
          · rcases hgrow.stN true b hb with h | h
            · have := hst1T b h
              cases fl with
              | true => exact .inl this
              | false => exact .inl (hR.own.sub b this)
            · exact .inr h
        have hown3 : Own { E2 with g := g' } L3 := by
          refine ⟨hndL3, fun b hb => ?_, fun b hb hs => ?_, fun fl b hb => ?_, hsub2⟩
          · rcases hL3 b hb with h | h
            · exact hown'.lt b h
            · exact Nat.lt_of_lt_of_le (hltL b (hLrL b h)) hgrow.size
          · rcases hL3 b hb with h | h
            · have h1 := hown'.off b h
              rcases hs with hs | hs
              · exact h1 (hgrow.stM false b (.inl hs))
              · exact h1 (hown'.sub b hs)
            · rcases hst2N false b hs with h1 | h1 | h1
              · exact hR.own.off b (hLrL b h) h1
              · exact hdis b h1 h
              · have := hltL b (hLrL b h); omega
          · rcases hb with hb | hb
            · exact Nat.lt_of_lt_of_le (by rw [← hh]; exact hR.own.stlt _ _ hb) hgrow.size
            · exact hown'.stlt _ _ hb
        have hext3 : Ext E { E2 with g := g' } [] := ⟨(hext [] fun _ h => by cases h).heap, fun _ _ h => .inl h, hR.own.sub, fun id x hx => ⟨x, hunf.old id x hx, .inl rfl⟩⟩
        refine ⟨_, _, { E2 with g := g' }, L3, hK, ⟨rfl, hR.m, fun k u hk => (hR.tmp k u hk).ext hext3, hunf.blk, hunf.keys, hown3, hunf.gn, hR.defers⟩, ⟨hext3, rfl, hgrow.size, fun b hb hn => hgrow.keep b hb fun hm => hn (hlpL b hm), fun fl b hb => ?_, fun b hb => ?_, hown3, hgrow.os, hgrow.tape, hgrow.output, fun b hb => hb.imp id .inr⟩, hunf.rep⟩
        · rcases hst2N fl b hb with h | h | h
          · exact .inl h
          · exact .inr (.inl (hlpL b h))
          · exact .inr (.inr h)
        · rcases hL3 b hb with h | h
          · rcases hgrow.new b h with h | h
            · exact .inl (hlpL b h)
            · exact .inr h
          · exact .inl (hLrL b h)
  all_goals exact h.elim
end Go.Ev
