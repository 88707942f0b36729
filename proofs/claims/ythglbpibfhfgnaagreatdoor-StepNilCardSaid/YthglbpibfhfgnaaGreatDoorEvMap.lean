/-
Maps: made, written, asked.
-/
import Derived.Test.YthglbpibfhfgnaaGreatDoorEvBuild2
import Derived.MapKept
set_option linter.unusedVariables false
set_option linter.unusedSimpArgs false
namespace Go.Ev
variable {Sp : FuncId → List AV → AV → List AV → Prop} {P : Program} {E : Env} {s : S} {a : Act} {w : World} {L : List Nat} {K : S → AV → Prop}

theorem kind_map {t k e : TypeId} (h : mapK (kindT P t) = some (k, e)) : P.underlying t = some (.map k e) := by
  unfold mapK at h
  split at h
  · rename_i k' e' hk
    injection h with h
    injection h with h1 h2
    subst h1 h2
    unfold kindT at hk
    split at hk <;> first | cases hk | skip
    assumption
  · cases h
def lkT : LK → TypeDesc
  | .bool => .bool
  | .int k => .int k
  | .str => .string
theorem kind_key {t : TypeId} {lk : LK} (h : keyK (kindT P t) = some lk) : P.underlying t = some (lkT lk) := by
  unfold keyK at h
  split at h
  · rename_i hk; injection h with h; subst h; exact kind_str hk
  · rename_i k hk; injection h with h; subst h; exact kind_int hk
  · rename_i hk; injection h with h; subst h
    unfold kindT at hk
    split at hk <;> first | cases hk | skip
    assumption
  · cases h

theorem bytes_eqL (a b : ByteArray) : (a == b) = (a.toList == b.toList) := by
  rw [Bool.eq_iff_iff, MapKept.bytes_beq]
  constructor
  · rintro rfl; simp
  · intro h
    have h' : a.toList = b.toList := by simpa using h
    apply ByteArray.ext
    apply Array.toList_inj.1
    rw [← ByteArray.toList_eq, ← ByteArray.toList_eq]
    exact h'
theorem bytes_comm (a b : ByteArray) : (a == b) = (b == a) := by
  rw [Bool.eq_iff_iff, MapKept.bytes_beq, MapKept.bytes_beq]; exact eq_comm

theorem eqK_now {lk : LK} {x y : AV} {cx cy : Value} {r : Bool} (hx : Rep E x cx []) (hy : Rep E y cy []) (h : eqK lk x y = some r) : Instr.sameNow (lkT lk) cx cy = some r ∧ (r = true → Instr.sameBits 10000 cy cx = true) := by
  unfold eqK at h
  split at h
  · cases hx; cases hy; injection h with h; subst h; exact ⟨rfl, fun h => by simp [Instr.sameBits] at h ⊢; exact h.symm⟩
  · cases hx; cases hy
    split at h
    · rename_i hk; subst hk; injection h with h; subst h
      exact ⟨by simp [Instr.sameNow, lkT], fun h => by simp [Instr.sameBits] at h ⊢; exact h.symm⟩
    · cases h
  · cases hx; cases hy; injection h with h; subst h
    refine ⟨?_, fun h => ?_⟩
    · simp only [Instr.sameNow, lkT]; rw [bytes_eqL]
    · rw [← bytes_eqL, bytes_comm] at h; simpa [Instr.sameBits] using h
  · cases h

theorem findM_now {lk : LK} {k : AV} {ck : Value} (hk : Rep E k ck []) : ∀ {ks vs : List AV} {es : List MapEntry} {r : Option AV} {i : Nat}, RepL E ks (es.map (·.key)) [] → RepL E vs (es.map (·.val)) [] → findM lk k ks vs = some r →
    (r = none ∧ Instr.findNow (lkT lk) ck es i = some none) ∨ ∃ v j cv, r = some v ∧ Instr.findNow (lkT lk) ck es i = some (some (j, cv)) ∧ Rep E v cv []
  | [], vs, es, r, i, h1, h2, h => by
    cases es with
    | nil => simp only [findM, Option.some.injEq] at h; exact .inl ⟨h.symm, rfl⟩
    | cons e es => cases h1
  | x :: ks, vs, es, r, i, h1, h2, h => by
    cases es with
    | nil => cases h1
    | cons e es =>
      cases vs with
      | nil => cases h2
      | cons v vs =>
        obtain ⟨c1, cs1, l1, l2, e1, hl, g1, g2⟩ := h1.inv
        obtain ⟨rfl, rfl⟩ : l1 = [] ∧ l2 = [] := by simpa using hl.symm
        obtain ⟨c2, cs2, l3, l4, e2, hl2, g3, g4⟩ := h2.inv
        obtain ⟨rfl, rfl⟩ : l3 = [] ∧ l4 = [] := by simpa using hl2.symm
        simp only [List.map_cons, List.cons.injEq] at e1 e2
        obtain ⟨rfl, rfl⟩ := e1
        obtain ⟨rfl, rfl⟩ := e2
        simp only [findM, Option.bind_eq_some_iff] at h
        obtain ⟨q, hq, h⟩ := h
        obtain ⟨hn, _⟩ := eqK_now hk g1 hq
        cases q with
        | true =>
          simp only [if_true, Option.some.injEq] at h
          subst h
          exact .inr ⟨v, i, e.val, rfl, by simp [Instr.findNow, hn], g3⟩
        | false =>
          simp only [Bool.false_eq_true, if_false] at h
          have := findM_now hk (i := i + 1) g2 g4 h
          simpa [Instr.findNow, hn] using this

theorem run_find {kt : TypeId} {lk : LK} (hkt : P.underlying kt = some (lkT lk)) {ck : Value} {es : List MapEntry} {r : Option (Nat × Value)} (h : Instr.findNow (lkT lk) ck es 0 = some r) : (Instr.findKey kt ck es).run P w = .ok r w := by
  unfold Instr.findKey
  simp only [Sem.run_bind, run_underlying hkt, Result.andThen_ok, h, Sem.run_pure]
theorem run_check {kt : TypeId} {lk : LK} (hkt : P.underlying kt = some (lkT lk)) (em : Bool) (ck : Value) : (Instr.checkKey em 10000 kt ck).run P w = .ok () w := by
  unfold Instr.checkKey
  simp only [Sem.run_bind, run_underlying hkt, Result.andThen_ok]
  cases lk <;> cases ck <;> rfl

theorem lookup_did (hR : R E s a w L) {t : TypeId} {ok : Bool} {m k : AV} {cm ck : Value} {r : List AV × List AV} {kk : TypeId × TypeId} {lk : LK} {v : Option AV} (hm : Rep E m cm []) (hk : Rep E k ck []) (hr : mapOf s.b m = some r) (hkk : mapK (kindT P t) = some kk)
    (hlk : keyK (kindT P kk.1) = some lk) (hf : findM lk k r.1 r.2 = some v) (hz : C1 (zeroT P kk.2) = true) (h : outW Sp (lookK s ok (zeroT P kk.2) v) K) : DidG true E s a w L K ((Instr.lookup t cm ck ok).run P w) := by
  have hu := kind_map (k := kk.1) (e := kk.2) hkk
  have hku := kind_key hlk
  obtain ⟨z, hz1, hz2⟩ := zeroT_rep (E := E) (.inl hz)
  have hzr : (zeroValue kk.2).run P w = .ok z w := by
    obtain ⟨i, hi, hiz⟩ := Option.bind_eq_some_iff.1 hz1
    simp [zeroValue, typeInfo, hi, hiz]
  have fin : ∀ {u : AV} {cu : Value} {b : Bool}, v.getD (zeroT P kk.2) = u → v.isSome = b → Rep E u cu [] → (Instr.lookup t cm ck ok).run P w = .ok (if ok = true then .tuple #[cu, .bool b] else cu) w → DidG true E s a w L K ((Instr.lookup t cm ck ok).run P w) := by
    intro u cu b hu hb hrep hrun
    rw [hrun]
    unfold lookK at h
    rw [hu, hb] at h
    split at h
    · rename_i ho
      rw [if_pos ho]
      exact did_ok hR h (.tup (.cons (l := []) (m := []) hrep (.cons (l := []) (m := []) (.bool _) .nil)))
    · rename_i ho
      rw [if_neg ho]
      exact did_ok hR h hrep
  have main : ∀ {es : Array MapEntry} {clock : Nat}, RepL E r.1 (es.toList.map (·.key)) [] → RepL E r.2 (es.toList.map (·.val)) [] → (∀ {v' : Value} {b : Bool}, (∀ q, (Instr.findKey kk.1 ck es.toList).run P w = .ok q w → (match q with | some (_, v) => (v, true) | none => (z, false)) = (v', b)) →
      (Instr.lookup t cm ck ok).run P w = .ok (if ok = true then .tuple #[v', .bool b] else v') w) → DidG true E s a w L K ((Instr.lookup t cm ck ok).run P w) := by
    intro es clock h1 h2 hrun
    rcases findM_now hk (i := 0) h1 h2 hf with ⟨rfl, hn⟩ | ⟨u, j, cu, rfl, hn, hrep⟩
    · refine fin (u := zeroT P kk.2) (cu := z) (b := false) rfl rfl hz2 (hrun fun q hq => ?_)
      have := run_find (w := w) hku hn
      rw [this] at hq; injection hq with hq; subst hq; rfl
    · refine fin (u := u) (cu := cu) (b := true) rfl rfl hrep (hrun fun q hq => ?_)
      have := run_find (w := w) hku hn
      rw [this] at hq; injection hq with hq; subst hq; rfl
  have hfind : ∀ {es : Array MapEntry}, RepL E r.1 (es.toList.map (·.key)) [] → RepL E r.2 (es.toList.map (·.val)) [] → ∃ q, (Instr.findKey kk.1 ck es.toList).run P w = .ok q w := fun h1 h2 => by
    rcases findM_now hk (i := 0) h1 h2 hf with ⟨_, hn⟩ | ⟨u, j, cu, _, hn, _⟩ <;> exact ⟨_, run_find hku hn⟩
  cases m
  case mp id =>
    obtain ⟨blk, hl, hg⟩ := Option.bind_eq_some_iff.1 hr
    cases blk <;> simp [getMap] at hg
    rename_i ks vs
    subst hg
    obtain ⟨l, hbr, _⟩ := hR.get hl
    cases hm with
    | @mp _ x b1 hg ho hb1 =>
      cases hbr with
      | @map _ _ x' b2 es clock hg' ho' hx' hb' hk' hv' =>
        obtain rfl : x = x' := by rw [hg] at hg'; injection hg'
        obtain rfl : b1 = b2 := by rw [hb1] at hx'; injection hx'
        have hbw : w.heap[b1]? = some (.map es clock) := by rw [← hR.heap]; exact hb'
        refine main (clock := clock) hk' hv' fun {v' b} hq => ?_
        obtain ⟨q, hrq⟩ := hfind hk' hv'
        have := hq q hrq
        unfold Instr.lookup
        simp only [Sem.run_bind, run_underlying hu, Result.andThen_ok, MapKept.run_getObj_map hbw, Sem.run_pure, run_check hku, hrq]
        cases q with
        | none => injection this with h1 h2; subst h1 h2; simp [hzr, Sem.run_bind]
        | some p => injection this with h1 h2; subst h1 h2; simp [Sem.run_bind]
  case nilm =>
    injection hr with hr
    subst hr
    cases hm
    refine main (es := #[]) (clock := 0) .nil .nil fun {v' b} hq => ?_
    obtain ⟨q, hrq⟩ := hfind (es := #[]) .nil .nil
    have := hq q hrq
    unfold Instr.lookup
    simp only [Sem.run_bind, run_underlying hu, Result.andThen_ok, Sem.run_pure, run_check hku, hrq]
    cases q with
    | none => injection this with h1 h2; subst h1 h2; simp [hzr, Sem.run_bind]
    | some p => injection this with h1 h2; subst h1 h2; simp [Sem.run_bind]
  all_goals cases hr
end Go.Ev
