/-
Addresses, lengths, parts, conversions of numbers and texts: what the evaluator says of them is so.
-/
import Derived.Test.YthglbpibfhfgnaaGreatDoorEvOps3
set_option linter.unusedVariables false
namespace Go.Ev
variable {Sp : FuncId → List AV → AV → List AV → Prop} {P : Program} {E : Env} {s : S} {a : Act} {w : World} {L : List Nat} {K : S → AV → Prop}

theorem un_did (hR : R E s a w L) {op : UnOp} {x : AV} {cx : Value} (hx : Rep E x cx []) (h : outW Sp (unO s op x) K) : DidG true E s a w L K ((Op.unary op cx).run P w) := by
  unfold unO at h
  split at h
  · cases hx; exact did_ok hR h (.bool _)
  · cases hx; exact did_ok hR h (.int _ _)
  · exact h.elim

theorem nilCheck_did (hR : R E s a w L) {x : AV} {cx : Value} (hx : Rep E x cx []) (h : outW Sp (nilCheckO s x) K) : DidG true E s a w L K (.ok cx w) ∧
    (∀ {q : Result Next}, q = (match cx with
      | .pointer none | .nilIface | .nilFunc => runtimePanic .nilDeref
      | .func (.method name) first captured =>
        match (first[0]? : Option Value) with
        | some .nilIface => runtimePanic .nilDeref
        | some (.iface t w) => do
          if (← nilAhead ((← program).types.size + Made.depth) t w name) != some false then
            unsupported (.noEntry "op/nilCheck.the method's receiver behind this interface value is a nil pointer, or cannot be seen to be none, and the arguments act or may panic (ledger 612)")
          pure (.value (.func (.method name) first captured))
        | _ => pure (.value (.func (.method name) first captured))
      | x => pure (.value x) : Sem Next).run P w → q = .ok (.value cx) w) := by
  unfold nilCheckO at h
  split at h
  · exact ⟨did_ok hR h hx, by cases hx; rintro q rfl; rfl⟩
  · exact ⟨did_ok hR h hx, by
      cases hx with
      | elp hg ho hn hv h => obtain ⟨p, rfl⟩ := hv; rintro q rfl; rfl⟩
  · exact ⟨did_ok hR h hx, by cases hx; rintro q rfl; rfl⟩
  · exact ⟨did_ok hR h hx, by cases hx; rintro q rfl; rfl⟩
  · exact h.elim

theorem und_info {t : TypeId} {d : TypeDesc} (h : P.underlying t = some d) : ∃ i, P.info? t = some i := by
  unfold Program.underlying at h
  cases hi : P.info? t with
  | some i => exact ⟨i, rfl⟩
  | none => simp [hi] at h

theorem run_sizeOf {t : TypeId} {i : TypeInfo} (h : P.info? t = some i) : (sizeOf t).run P w = .ok i.size w := by simp [sizeOf, typeInfo, h]

theorem addr_add (b o k : Nat) : (⟨b, o, none⟩ : Addr).add k = ⟨b, o + k, none⟩ := by unfold Addr.add; split <;> simp_all

theorem At.drop {h : Array Obj} {b o k : Nat} {vs : List Value} (ha : At h b o vs) : At h b (o + k) (vs.drop k) := fun j v hj => by
  rw [List.getElem?_drop] at hj
  have := ha (k + j) v hj
  rwa [← Nat.add_assoc] at this
theorem RepL.drop {as : List AV} {vs : List Value} (h : RepL E as vs []) (k : Nat) : RepL E (as.drop k) (vs.drop k) [] := by
  have e : as = as.take k ++ as.drop k := (List.take_append_drop k as).symm
  rw [e] at h
  obtain ⟨v1, v2, l1, l2, rfl, hl, h1, h2⟩ := h.split
  obtain ⟨rfl, rfl⟩ : l1 = [] ∧ l2 = [] := by simpa using hl.symm
  have hlen := h1.length
  rcases Nat.le_total k as.length with hk | hk
  · have : v1.length = k := by rw [← hlen]; simp [hk]
    have e3 : (v1 ++ v2).drop k = v2 := by rw [← this, List.drop_left]
    rw [e3]
    exact h2
  · have e2 : as.drop k = [] := List.drop_eq_nil_of_le hk
    rw [e2] at h2 ⊢
    cases h2
    have : v1.length ≤ k := by rw [← hlen]; simp; omega
    rw [List.append_nil, List.drop_eq_nil_of_le this]
    exact .nil
theorem RepL.take {as : List AV} {vs : List Value} (h : RepL E as vs []) (k : Nat) : RepL E (as.take k) (vs.take k) [] := by
  have e : as = as.take k ++ as.drop k := (List.take_append_drop k as).symm
  rw [e] at h
  obtain ⟨v1, v2, l1, l2, rfl, hl, h1, h2⟩ := h.split
  obtain ⟨rfl, rfl⟩ : l1 = [] ∧ l2 = [] := by simpa using hl.symm
  have hlen := h1.length
  rcases Nat.le_total k as.length with hk | hk
  · have : v1.length = k := by rw [← hlen]; simp [hk]
    rw [← this, List.take_left]
    rw [this]; exact h1
  · have e2 : as.drop k = [] := List.drop_eq_nil_of_le hk
    rw [e2] at h2
    cases h2
    have : v1.length ≤ k := by rw [← hlen]; simp; omega
    rw [List.append_nil, List.take_of_length_le this]
    exact h1

theorem fieldAt_run {t : TypeId} {f o b j : Nat} (ho : offT P t f = some o) : (Instr.fieldAt t (.pointer (some ⟨b, j, none⟩)) f).run P w = .ok (.pointer (some ⟨b, j + o, none⟩)) w := by
  unfold offT at ho
  split at ho
  · rename_i fs hu
    split at ho
    · rename_i x hx
      split at ho
      · cases ho
      · rename_i hz
        injection ho with ho
        subst ho
        have : ∃ i, P.info? x.type = some i := by
          cases hi : P.info? x.type with
          | some i => exact ⟨i, rfl⟩
          | none => simp [szT, hi] at hz
        obtain ⟨i, hi⟩ := this
        have hz' : i.size ≠ 0 := by simpa [szT, hi] using hz
        simp [Instr.fieldAt, run_underlying hu, hx, Instr.sureAddr, fieldPlace, run_sizeOf hi, hz', addr_add]
    · cases ho
  · cases ho

theorem fieldAddr_did (hR : R E s a w L) {t : TypeId} {f : Nat} {x : AV} {cx : Value} (hx : Rep E x cx []) (h : outW Sp (fieldAddrO s (offT P t f) x) K) : DidG true E s a w L K ((Instr.fieldAt t cx f).run P w) := by
  unfold fieldAddrO at h
  split at h
  · rename_i ho
    cases hx with
    | loc hg hob hb => rw [fieldAt_run ho]; exact did_ok hR h (.loc hg hob hb)
  · rename_i id n i j o ho
    cases hx with
    | @elp _ _ _ _ l _ hg hob hn hv hh =>
      obtain ⟨p, rfl⟩ := hv
      by_cases hl : l.n = n
      · obtain ⟨b, hb, he⟩ := hh hl
        injection he with he; injection he with he; subst he
        rw [fieldAt_run ho]
        exact did_ok hR h (.elp hg hob hn ⟨_, rfl⟩ fun _ => ⟨b, hb, by simp [Nat.add_assoc]⟩)
      · have : ∃ q, (Instr.fieldAt t (.pointer (some p)) f).run P w = .ok (.pointer (some q)) w := by
          unfold offT at ho
          split at ho
          · rename_i fs hu
            split at ho
            · rename_i x hx
              split at ho
              · cases ho
              · rename_i hz
                have : ∃ i, P.info? x.type = some i := by
                  cases hi : P.info? x.type with
                  | some i => exact ⟨i, rfl⟩
                  | none => simp [szT, hi] at hz
                obtain ⟨i, hi⟩ := this
                have hz' : i.size ≠ 0 := by simpa [szT, hi] using hz
                exact ⟨_, by simp [Instr.fieldAt, run_underlying hu, hx, Instr.sureAddr, fieldPlace, run_sizeOf hi, hz']; rfl⟩
            · cases ho
          · cases ho
        obtain ⟨q, hq⟩ := this
        rw [hq]
        exact did_ok hR h (.elp hg hob hn ⟨_, rfl⟩ fun e => absurd e hl)
  · rename_i cs o ho
    obtain ⟨hlt, h⟩ := h
    cases hx with
    | fz hs ha hh =>
      rw [fieldAt_run ho]
      exact did_ok hR h (.fz hs ha.drop (hh.drop o))
  · exact h.elim

theorem outW_getO {l : List AV} {i : Nat} {f : AV → Out} (h : outW Sp (getO l i f) K) : ∃ x, l[i]? = some x ∧ outW Sp (f x) K := outW_okO h

theorem extract_did (hR : R E s a w L) {x : AV} {i : Nat} {cx : Value} (hx : Rep E x cx []) (h : outW Sp (okO (tupOf x) fun vs => getO vs i fun v => .ok s v) K) : DidG true E s a w L K ((Instr.extract cx i).run P w) := by
  obtain ⟨vs, hvs, hA⟩ := outW_okO h
  obtain ⟨v, hv, hB⟩ := outW_getO hA
  unfold tupOf at hvs
  split at hvs
  · injection hvs with hvs
    subst hvs
    cases hx with
    | tup hx =>
      obtain ⟨cv, li, h1, h2, p, q, hl⟩ := hx.get hv
      obtain ⟨rfl⟩ : li = [] := by simp at hl; exact hl.2.1
      have h1' := h1
      rw [Array.getElem?_toList] at h1'
      simp only [Instr.extract, h1']
      exact did_ok hR hB h2
  · cases hvs

/-- What is known of a row of own memory. -/
structure RowIs (E : Env) (id sz : Nat) (els : List AV) (fr : Bool) (x : Loc) : Prop where
  g : E.g id = some x
  obj : x.obj = false
  n : x.n = els.length
  le : els.length ≤ x.cap
  mx : els.length ≤ MX
  hsz : x.sz = sz
  z : ∀ e ∈ els, okE sz e
  mem : (els = [] ∧ x.blk = none ∧ x.cap = 0) ∨ ∃ b cells ty fz l, x.blk = some b ∧ E.h[b]? = some (.cells cells ty fz) ∧ els.length * sz ≤ cells.size ∧ RepL E (flat els) (cells.toList.take (els.length * sz)) l ∧ (fr = true → E.st true b ∧ l = []) ∧ (fr = false → openB fz cells.size ∧ cells.size = x.cap * sz)

theorem flat_len {sz : Nat} : ∀ {els : List AV}, (∀ e ∈ els, okE sz e) → (flat els).length = els.length * sz
  | [], _ => by simp [flat]
  | e :: els, h => by
    have h1 := flat_len (els := els) fun x hx => h x (by simp [hx])
    have h2 := (h e (by simp)).1
    unfold flat at *
    simp only [List.flatMap_cons, List.length_append, h1, h2, List.length_cons, Nat.add_mul]
    omega

theorem R.row (hR : R E s a w L) {id sz : Nat} {els : List AV} {fr : Bool} (hlk : look id s.b = some (.row sz els fr)) : ∃ x, RowIs E id sz els fr x := by
  obtain ⟨l, hb, _⟩ := hR.get hlk
  cases hb with
  | nil hg ho hx hc hn hz => exact ⟨_, ⟨hg, ho, by simp [hn], by simp, by simp, hz, by simp, .inl ⟨rfl, hx, hc⟩⟩⟩
  | row hg ho hx hn hs hb hf hc hl hm hz h => exact ⟨_, ⟨hg, ho, hn, hl, hm, hs, hz, .inr ⟨_, _, _, _, _, hx, hb, by rw [hc]; exact Nat.mul_le_mul_right _ hl, h, by simp, fun _ => ⟨hf, hc⟩⟩⟩⟩
  | frz hg ho hx hn hs hb hst hl hm hz h =>
    refine ⟨_, ⟨hg, ho, hn, hl, hm, hs, hz, .inr ⟨_, _, _, _, _, hx, hb, ?_, h, fun _ => ⟨hst, rfl⟩, by simp⟩⟩⟩
    have h1 := h.length
    rw [flat_len hz, List.length_take] at h1
    have := Nat.min_le_right (els.length * sz) ‹Array Value›.toList.length
    simp only [Array.length_toList] at *
    omega

theorem rowAt_look {b : Mem} {id : Nat} {r : Nat × List AV × Bool} (h : rowAt b id = some r) : look id b = some (.row r.1 r.2.1 r.2.2) := by
  unfold rowAt at h
  obtain ⟨blk, h1, h2⟩ := Option.bind_eq_some_iff.1 h
  cases blk <;> simp [getRow] at h2
  subst h2
  exact h1

theorem kind_slice {t e : TypeId} (h : kindT P t = .slice e) : P.underlying t = some (.slice e) := by
  unfold kindT at h
  split at h <;> first | (injection h with h; subst h; assumption) | cases h
theorem kind_array {t n e : TypeId} (h : kindT P t = .array n e) : P.underlying t = some (.array n e) := by
  unfold kindT at h
  split at h <;> first | (injection h with h h'; subst h h'; assumption) | cases h
theorem kind_str {t : TypeId} (h : kindT P t = .str) : P.underlying t = some .string := by
  unfold kindT at h
  split at h <;> first | assumption | cases h
theorem kind_int {t : TypeId} {k : IntKind} (h : kindT P t = .int k) : P.underlying t = some (.int k) := by
  unfold kindT at h
  split at h <;> first | (injection h with h; subst h; assumption) | cases h

theorem slice_len {x : AV} {cx : Value} (hx : Rep E x cx []) : (∀ {id n off len}, x = .row id n off len ∨ x = .rowc id n off len → ∃ ao c, cx = .slice ao len c) := by
  rintro id n off len (rfl | rfl)
  · cases hx with | row _ _ _ hv => exact hv
  · cases hx with | rowc _ _ _ hv => obtain ⟨a, rfl⟩ := hv; exact ⟨_, _, rfl⟩

theorem len_did (hR : R E s a w L) {t ty : TypeId} {x : AV} {cx : Value} (hx : Rep E x cx []) (h : outW Sp (lenO s (kindT P t) x) K) :
    DidG true E s a w L K ((Builtin.len_ #[t] ty #[cx]).run P w) := by
  have sl : ∀ {e : TypeId} {ao : Option Addr} {n c : Nat}, cx = .slice ao n c → kindT P t = .slice e → (Builtin.len_ #[t] ty #[cx]).run P w = .ok (.int .i64 n) w := by
    rintro e ao n c rfl he
    simp [Builtin.len_, run_underlying (kind_slice he), goInt]
  unfold lenO at h
  split at h
  · rename_i hk
    cases hx with
    | str _ hs =>
      have h := h hs
      rw [show (Builtin.len_ #[t] ty #[.string _]).run P w = .ok (.int .i64 _) w from by simp [Builtin.len_, run_underlying (kind_str hk), goInt]; rfl]
      exact did_ok hR h (.int _ _)
  · rename_i hk
    cases hx with
    | lst0 => rw [sl rfl hk]; exact did_ok hR (h (by simp)) (.int _ _)
    | lst h1 h2 h3 => rw [sl rfl hk]; exact did_ok hR (h h3) (.int _ _)
  · rename_i hk
    obtain ⟨rfl, h⟩ := h
    cases hx with
    | olst0 => rw [sl rfl hk]; exact did_ok hR h (.int _ _)
  · rename_i hk
    obtain ⟨r, hr, hA⟩ := outW_okO h
    obtain ⟨⟨rfl, hle⟩, hB⟩ := hA
    obtain ⟨x, hx'⟩ := hR.row (rowAt_look hr)
    obtain ⟨ao, c, rfl⟩ := slice_len hx (.inl rfl)
    rw [sl rfl hk]
    exact did_ok hR (hB (by have := hx'.mx; unfold MX at this; omega)) (.int _ _)
  · rename_i hk
    obtain ⟨r, hr, hA⟩ := outW_okO h
    obtain ⟨⟨rfl, hle⟩, hB⟩ := hA
    obtain ⟨x, hx'⟩ := hR.row (rowAt_look hr)
    obtain ⟨ao, c, rfl⟩ := slice_len hx (.inr rfl)
    rw [sl rfl hk]
    exact did_ok hR (hB (by have := hx'.mx; unfold MX at this; omega)) (.int _ _)
  · exact h.elim

theorem flat_split {els : List AV} {i : Nat} {e : AV} (h : els[i]? = some e) : flat els = flat (els.take i) ++ (cellsOf e ++ flat (els.drop (i + 1))) := by
  obtain ⟨hi, rfl⟩ := List.getElem?_eq_some_iff.1 h
  have : els = els.take i ++ (els[i] :: els.drop (i + 1)) := by simp
  unfold flat
  rw [← List.flatMap_cons, ← List.flatMap_append, ← this]

theorem indexAt_run {t e : TypeId} (ht : P.underlying t = some (.slice e)) {ad : Addr} {n c : Nat} {k : IntKind} {i : Int} (h0 : 0 ≤ i) (h1 : i < n) (hs : ∃ j, P.info? e = some j) :
    (Instr.indexAt t (.slice (some ad) n c) (.int k i)).run P w = .ok (.pointer (some (ad.add (i.toNat * szT P e)))) w := by
  obtain ⟨j, hj⟩ := hs
  simp [Instr.indexAt, asIntOf, run_underlying ht, h0, h1, run_sizeOf hj, szT, hj]

theorem szT_info {e : TypeId} (h : 0 < szT P e) : ∃ j, P.info? e = some j := by
  cases hi : P.info? e with
  | some i => exact ⟨i, rfl⟩
  | none => simp [szT, hi] at h

theorem okE_pos {els : List AV} {sz i : Nat} {e : AV} (hz : ∀ e ∈ els, okE sz e) (h : els[i]? = some e) : (cellsOf e).length = sz := (hz e (List.mem_of_getElem? h)).1

theorem indexAddr_did (hR : R E s a w L) {t e : TypeId} (ht : kindT P t = .slice e) {x i : AV} {cx ci : Value} (hx : Rep E x cx []) (hi : Rep E i ci []) (h : outW Sp (indexAddrO s (szT P e) x i) K) :
    DidG true E s a w L K ((Instr.indexAt t cx ci).run P w) := by
  have hu := kind_slice ht
  unfold indexAddrO at h
  split at h
  · rename_i id n off len k i
    obtain ⟨r, hr, hA⟩ := outW_okO h
    obtain ⟨⟨rfl, hle, hsz, hpos, h0, h1⟩, hB⟩ := hA
    have hs := szT_info hpos
    obtain ⟨y, hy⟩ := hR.row (rowAt_look hr)
    cases hi
    cases hx with
    | @row _ _ _ _ l _ hg ho hn hv hh =>
      obtain rfl : l = y := by have := hy.g; rw [hg] at this; injection this
      obtain ⟨ao, rfl, hat⟩ := hh hy.n
      have hlen : 0 < len := by omega
      rcases hy.mem with ⟨he, _⟩ | ⟨b, cells, ty, fz, m, hb, _⟩
      · rw [he] at hle; simp at hle; omega
      · have hao := hat (.inl (by have := hy.le; omega))
        rw [hb] at hao
        subst hao
        simp only [Option.map_some]
        rw [indexAt_run hu h0 (by omega) hs, addr_add]
        exact did_ok hR hB (.elp hg ho (by omega) ⟨_, rfl⟩ fun _ => ⟨b, hb, by rw [hy.hsz, hsz, Nat.add_mul, Nat.add_zero]⟩)
  · rename_i id n off len k i
    obtain ⟨r, hr, hA⟩ := outW_okO h
    obtain ⟨⟨rfl, hle, hsz, hpos, h0, h1⟩, hB⟩ := hA
    have hs := szT_info hpos
    obtain ⟨y, hy⟩ := hR.row (rowAt_look hr)
    cases hi
    cases hx with
    | @rowc _ _ _ _ l _ hg ho hn hv hh =>
      obtain rfl : l = y := by have := hy.g; rw [hg] at this; injection this
      obtain ⟨ao, rfl, hat⟩ := hh hy.n
      have hlen : 0 < len := by omega
      rcases hy.mem with ⟨he, _⟩ | ⟨b, cells, ty, fz, m, hb, _⟩
      · rw [he] at hle; simp at hle; omega
      · have hao := hat hlen
        rw [hb] at hao
        subst hao
        simp only [Option.map_some]
        rw [indexAt_run hu h0 (by omega) hs, addr_add]
        exact did_ok hR hB (.elp hg ho (by omega) ⟨_, rfl⟩ fun _ => ⟨b, hb, by rw [hy.hsz, hsz, Nat.add_mul, Nat.add_zero]⟩)
  · rename_i fl sz els k i
    obtain ⟨⟨rfl, hpos, h0, h1⟩, hA⟩ := h
    have hs := szT_info hpos
    obtain ⟨e', he', h'⟩ := outW_getO hA
    cases hi
    cases hx with
    | lst0 => simp at he'
    | @lst _ _ _ b o cap vs hn hc hm hst hz ha hh =>
      rw [indexAt_run hu h0 h1 hs, addr_add]
      rw [flat_split he'] at hh
      obtain ⟨v1, v2, l1, l2, rfl, hl, g1, g2⟩ := hh.split
      obtain ⟨rfl, rfl⟩ : l1 = [] ∧ l2 = [] := by simpa using hl.symm
      obtain ⟨v3, v4, l3, l4, rfl, hl, g3, g4⟩ := g2.split
      obtain ⟨rfl, rfl⟩ : l3 = [] ∧ l4 = [] := by simpa using hl.symm
      have hlen : v1.length = i.toNat * szT P e := by
        rw [← g1.length, flat_len (sz := szT P e) fun x hx => hz x (List.mem_of_mem_take hx)]
        rw [List.length_take, Nat.min_eq_left (by omega)]
      have hsub : E.st false b := by cases fl; exact hst; exact hR.own.sub _ hst
      refine did_ok hR h' (.fz (vs := v3) hsub ?_ g3)
      intro q v hq
      have := ha (v1.length + q) v (by
        rw [List.getElem?_append_right (by omega), List.getElem?_append_left (by
          have := (List.getElem?_eq_some_iff.1 hq).1; simpa using this)]
        simpa using hq)
      rw [hlen] at this
      rwa [Nat.add_assoc]
  · exact h.elim
end Go.Ev
