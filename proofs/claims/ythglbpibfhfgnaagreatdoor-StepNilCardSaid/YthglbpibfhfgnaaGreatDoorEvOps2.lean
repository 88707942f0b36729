/-
Operations on numbers, texts, bools, addresses, lengths, parts.
-/
import Derived.Test.YthglbpibfhfgnaaGreatDoorEvOps1
import Derived.Laws.StructEq
set_option linter.unusedVariables false
namespace Go.Ev
variable {Sp : FuncId → List AV → AV → List AV → Prop} {P : Program} {E : Env} {s : S} {a : Act} {w : World} {L : List Nat} {K : S → AV → Prop}

theorem RepL.inv {a : AV} {as : List AV} {ws : List Value} {l : List Nat} (h : RepL E (a :: as) ws l) : ∃ v vs l1 l2, ws = v :: vs ∧ l = l1 ++ l2 ∧ Rep E a v l1 ∧ RepL E as vs l2 := by
  cases h with
  | cons h t => exact ⟨_, _, _, _, rfl, rfl, h, t⟩
theorem RepL.inv1 {a : AV} {ws : List Value} {l : List Nat} (h : RepL E [a] ws l) : ∃ v, ws = [v] ∧ Rep E a v l := by
  obtain ⟨v, vs, l1, l2, rfl, rfl, h', t⟩ := h.inv
  cases t
  exact ⟨v, rfl, by simpa using h'⟩

theorem run_und {t : TypeId} {d : TypeDesc} (h : P.underlying t = some d) : (underlying t).run P w = .ok d w := run_underlying h w

theorem run_part {t : TypeId} {vs : Array Value} {off : Nat} {d : TypeDesc} (hd : P.underlying t = some d) :
    (part t vs off).run P w = if aggT P t = true then (match (P.info? t) with | some i => .ok (.agg (vs.extract off (off + i.size))) w | none => (sizeOf t >>= fun n => pure (.agg (vs.extract off (off + n))) : Sem Value).run P w)
      else (match vs[off]? with | some v => .ok v w | none => .halt (.stuck "part: no such cell") w) := by
  unfold part isAgg aggT
  cases d <;> simp [run_und hd, hd] <;> (try (split <;> simp [sizeOf, typeInfo, *])) <;> (cases hv : vs[off]? <;> simp)

/-- The value of a type whose cells these are. -/
def valT (P : Program) (t : TypeId) (vs : List Value) : Value := if aggT P t then .agg vs.toArray else vs.headD undef

theorem leaves_und {k : Nat} {t : TypeId} {lk : List LK} (h : leaves P k t = some lk) : ∃ d, P.underlying t = some d := by
  cases k with
  | zero => simp [leaves] at h
  | succ k => simp only [leaves] at h; split at h <;> first | exact ⟨_, ‹_›⟩ | cases h

theorem leaves_agg {k : Nat} {t : TypeId} {lk : List LK} (h : leaves P k t = some lk) (ha : aggT P t = false) : lk.length = 1 := by
  cases k with
  | zero => simp [leaves] at h
  | succ k =>
    simp only [leaves] at h
    split at h <;> first | (injection h with h; subst h; rfl) | skip
    · rename_i hu; simp [aggT, hu] at ha
    · cases h

theorem eqLK_append {l m : List LK} {as bs cs ds : List AV} {r : Bool} (hl : as.length = l.length) (hm : cs.length = l.length) (h : eqLK (l ++ m) (as ++ bs) (cs ++ ds) = some r) :
    ∃ x y, eqLK l as cs = some x ∧ eqLK m bs ds = some y ∧ r = (x && y) := by
  induction l generalizing as cs r with
  | nil =>
    obtain rfl := List.eq_nil_of_length_eq_zero hl
    obtain rfl := List.eq_nil_of_length_eq_zero hm
    exact ⟨true, r, rfl, h, by simp⟩
  | cons k l ih =>
    cases as with
    | nil => simp at hl
    | cons a as =>
      cases cs with
      | nil => simp at hm
      | cons c cs =>
        simp only [List.cons_append, eqLK, Option.bind_eq_some_iff, Option.map_eq_some_iff] at h
        obtain ⟨x, hx, y, hy, rfl⟩ := h
        obtain ⟨x', y', h1, h2, rfl⟩ := ih (by simpa using hl) (by simpa using hm) hy
        exact ⟨x && x', y', by simp [eqLK, hx, h1], h2, by simp [Bool.and_assoc]⟩

theorem eqLK_len {l : List LK} : ∀ {as cs : List AV} {r : Bool}, eqLK l as cs = some r → as.length = l.length ∧ cs.length = l.length := by
  induction l with
  | nil => intro as cs r h; cases as <;> cases cs <;> simp_all [eqLK]
  | cons k l ih =>
    intro as cs r h
    cases as with
    | nil => simp [eqLK] at h
    | cons a as =>
      cases cs with
      | nil => simp [eqLK] at h
      | cons c cs =>
        simp only [eqLK, Option.bind_eq_some_iff, Option.map_eq_some_iff] at h
        obtain ⟨x, hx, y, hy, rfl⟩ := h
        obtain ⟨h1, h2⟩ := ih hy
        simp [h1, h2]

theorem extract_mid (pre mid post : List Value) : (pre ++ mid ++ post).toArray.extract pre.length (pre.length + mid.length) = mid.toArray := by
  apply Array.ext'
  simp

theorem eqFields_run {k d : Nat} (IH : ∀ {t : TypeId} {lk : List LK} {as cs : List AV} {vs us : List Value} {r : Bool}, leaves P k t = some lk → eqLK lk as cs = some r → RepL E as vs [] → RepL E cs us [] →
    (Op.equalIn d t (valT P t vs) (valT P t us)).run P w = .ok r w) :
    ∀ (fs : List Field) (off : Nat) (lk : List LK) (as cs : List AV) (pre pre' vs us : List Value) (r : Bool), leavesF P (leaves P k) fs off = some lk → eqLK lk as cs = some r → RepL E as vs [] → RepL E cs us [] → pre.length = off → pre'.length = off →
    (Op.eqFields d (pre ++ vs).toArray (pre' ++ us).toArray fs).run P w = .ok r w := by
  intro fs
  induction fs with
  | nil =>
    intro off lk as cs pre pre' vs us r h he hv hu _ _
    simp only [leavesF, Option.some.injEq] at h
    subst h
    cases as <;> cases cs <;> simp_all [eqLK, Op.eqFields]
  | cons f fs ih =>
    intro off lk as cs pre pre' vs us r h he hv hu hp hp'
    simp only [leavesF] at h
    split at h
    · cases h
    · rename_i hn
      have hn' : f.name ≠ "_" ∧ f.offset = off := by
        constructor
        · intro e; exact hn (.inl e)
        · exact Decidable.byContradiction fun e => hn (.inr e)
      obtain ⟨hname, hoff⟩ := hn'
      simp only [Option.bind_eq_some_iff] at h
      obtain ⟨l1, hl1, h⟩ := h
      split at h
      · rename_i hsz
        simp only [Option.map_eq_some_iff] at h
        obtain ⟨l2, hl2, rfl⟩ := h
        obtain ⟨hlen1, hlen2⟩ := eqLK_len he
        have e1 : as = as.take l1.length ++ as.drop l1.length := (List.take_append_drop _ _).symm
        have e2 : cs = cs.take l1.length ++ cs.drop l1.length := (List.take_append_drop _ _).symm
        rw [e1] at hv he
        rw [e2] at hu he
        have ha1 : (as.take l1.length).length = l1.length := by simp [hlen1]
        have hc1 : (cs.take l1.length).length = l1.length := by simp [hlen2]
        generalize as.take l1.length = as1 at *
        generalize as.drop l1.length = as2 at *
        generalize cs.take l1.length = cs1 at *
        generalize cs.drop l1.length = cs2 at *
        obtain ⟨x, y, hx, hy, rfl⟩ := eqLK_append ha1 hc1 he
        obtain ⟨vs1, vs2, m1, m2, rfl, hm, hv1, hv2⟩ := hv.split
        obtain ⟨us1, us2, m3, m4, rfl, hm', hu1, hu2⟩ := hu.split
        obtain ⟨rfl, rfl⟩ : m1 = [] ∧ m2 = [] := by simpa using hm.symm
        obtain ⟨rfl, rfl⟩ : m3 = [] ∧ m4 = [] := by simpa using hm'.symm
        have hv1l : vs1.length = l1.length := by rw [← hv1.length, ha1]
        have hu1l : us1.length = l1.length := by rw [← hu1.length, hc1]
        obtain ⟨dd, hdd⟩ := leaves_und hl1
        have part_eq : ∀ (p v1 v2 : List Value), p.length = off → v1.length = l1.length → (part f.type (p ++ (v1 ++ v2)).toArray f.offset).run P w = .ok (valT P f.type v1) w := by
          intro p v1 v2 hp hv
          rw [run_part hdd, hoff]
          unfold valT
          by_cases hagg : aggT P f.type = true
          · rw [if_pos hagg, if_pos hagg]
            have : ∃ i, P.info? f.type = some i := by
              unfold Program.underlying at hdd
              cases hi : P.info? f.type with
              | some i => exact ⟨i, rfl⟩
              | none => simp [hi] at hdd
            obtain ⟨i, hi⟩ := this
            have hisz : i.size = l1.length := by simpa [szT, hi] using hsz
            rw [hi]
            simp only [hisz]
            rw [← hv, ← hp, ← List.append_assoc, extract_mid]
          · rw [if_neg hagg, if_neg hagg]
            have h1 := leaves_agg hl1 (by simpa using hagg)
            obtain ⟨v, rfl⟩ : ∃ v, v1 = [v] := List.length_eq_one_iff.1 (hv.trans h1)
            simp [← hp]
        have g1 := part_eq pre vs1 vs2 hp hv1l
        have g2 := part_eq pre' us1 us2 hp' hu1l
        have g3 := IH hl1 hx hv1 hu1
        have g4 := ih (off + l1.length) l2 as2 cs2 (pre ++ vs1) (pre' ++ us1) vs2 us2 y hl2 hy hv2 hu2 (by simp [hp, hv1l]) (by simp [hp', hu1l])
        simp only [List.append_assoc] at g4
        rw [Op.eqFields]
        simp only [if_pos hname, Sem.run_bind, g1, g2, g3, Result.andThen_ok]
        cases x
        · simp
        · simpa using g4
      · cases h

theorem equalIn_run : ∀ (k d : Nat), k ≤ d → ∀ {t : TypeId} {lk : List LK} {as cs : List AV} {vs us : List Value} {r : Bool}, leaves P k t = some lk → eqLK lk as cs = some r → RepL E as vs [] → RepL E cs us [] →
    (Op.equalIn d t (valT P t vs) (valT P t us)).run P w = .ok r w := by
  intro k
  induction k with
  | zero => intro d _ t lk as cs vs us r h; simp [leaves] at h
  | succ k ih =>
    intro d hd t lk as cs vs us r h he hv hu
    obtain ⟨d, rfl⟩ : ∃ e, d = e + 1 := ⟨d - 1, by omega⟩
    have one : ∀ {x : LK}, lk = [x] → ∃ a c v u, as = [a] ∧ cs = [c] ∧ vs = [v] ∧ us = [u] ∧ eqK x a c = some r ∧ Rep E a v [] ∧ Rep E c u [] := by
      rintro x rfl
      obtain ⟨h1, h2⟩ := eqLK_len he
      obtain ⟨a, rfl⟩ := List.length_eq_one_iff.1 h1
      obtain ⟨c, rfl⟩ := List.length_eq_one_iff.1 h2
      obtain ⟨v, rfl, hv'⟩ := hv.inv1
      obtain ⟨u, rfl, hu'⟩ := hu.inv1
      simp only [eqLK, Option.bind_eq_some_iff, Option.map_eq_some_iff, Option.some.injEq] at he
      obtain ⟨b, hb, b', rfl, rfl⟩ := he
      exact ⟨a, c, v, u, rfl, rfl, rfl, rfl, by simpa using hb, hv', hu'⟩
    simp only [leaves] at h
    split at h
    · rename_i hu'
      injection h with h
      obtain ⟨a, c, v, u, rfl, rfl, rfl, rfl, hk, h1, h2⟩ := one h.symm
      have : aggT P t = false := by simp [aggT, hu']
      simp only [valT, this]
      unfold eqK at hk
      split at hk <;> first | (cases h1; cases h2; simp_all [run_equalIn_bool']; done) | simp_all
    · rename_i k' hu'
      injection h with h
      obtain ⟨a, c, v, u, rfl, rfl, rfl, rfl, hk, h1, h2⟩ := one h.symm
      have : aggT P t = false := by simp [aggT, hu']
      simp only [valT, this]
      unfold eqK at hk
      split at hk <;> first | (split at hk <;> first | (cases h1; cases h2; subst_vars; simp_all [run_equalIn_int w d t _ _ _ _ hu']; done) | cases hk) | simp_all
    · rename_i hu'
      injection h with h
      obtain ⟨a, c, v, u, rfl, rfl, rfl, rfl, hk, h1, h2⟩ := one h.symm
      have : aggT P t = false := by simp [aggT, hu']
      simp only [valT, this]
      unfold eqK at hk
      split at hk <;> first | (cases h1; cases h2; simp_all [run_equalIn_string]; done) | simp_all
    · rename_i fs hu'
      split at h
      · cases h
      · rename_i hst
        have hagg : aggT P t = true := by simp [aggT, hu']
        have hf : P.fieldsOf t = fs := by simp [Program.fieldsOf, hu']
        simp only [valT, hagg, if_true]
        rw [run_equalIn_struct (P := P) w d t _ _ (by rw [hf]; exact hu') (by simpa using hst), hf]
        have := eqFields_run (P := P) (E := E) (w := w) (k := k) (d := d) (fun h1 h2 h3 h4 => ih d (by omega) h1 h2 h3 h4) fs.toList 0 lk as cs [] [] vs us r h he hv hu rfl rfl
        simpa using this
    · cases h
end Go.Ev
