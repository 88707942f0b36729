/-
Cuts, indexes of texts and arrays, conversions.
-/
import Derived.Test.YthglbpibfhfgnaaGreatDoorEvOps4
set_option linter.unusedVariables false
namespace Go.Ev
variable {Sp : FuncId → List AV → AV → List AV → Prop} {P : Program} {E : Env} {s : S} {a : Act} {w : World} {L : List Nat} {K : S → AV → Prop}

theorem bnd_run (hR : R E s a w L) {x : Option Operand} {d : Nat} {i : Int} (h : bnd s x d = some i) : (x = none ∧ i = d) ∨ ∃ y k, x = some y ∧ a.eval y = .int k i := by
  unfold bnd at h
  split at h
  · injection h with h; exact .inl ⟨rfl, h.symm⟩
  · rename_i y
    split at h
    · rename_i k j hj
      injection h with h
      subst h
      have := hR.eval hj
      cases hv : a.eval y <;> rw [hv] at this <;> cases this
      exact .inr ⟨y, _, rfl, hv⟩
    · cases h

theorem sliceBound_run {k : IntKind} {i : Int} {y : Nat} {c : BoundsCode} (h0 : 0 ≤ i) (h1 : i ≤ y) : (Instr.sliceBound (.int k i) y c).run P w = .ok i.toNat w := by
  simp [Instr.sliceBound, asIntOf, h0, h1]

theorem optB_run (hR : R E s a w L) {x : Option Operand} {d y : Nat} {i : Int} {c : BoundsCode} (h : bnd s x d = some i) (h0 : 0 ≤ i) (h1 : i ≤ y) :
    (match x.map a.eval with | some v => Instr.sliceBound v y c | none => pure d : Sem Nat).run P w = .ok i.toNat w := by
  rcases bnd_run hR h with ⟨rfl, rfl⟩ | ⟨z, k, rfl, hz⟩
  · simp
  · simp [hz, sliceBound_run h0 h1]

/-- The bounds of a cut without a third index. -/
theorem bounds_run (hR : R E s a w L) {lo hi : Option Operand} {l h : Int} {len cap : Nat} {sl : Bool} (hl : bnd s lo 0 = some l) (hh : bnd s hi len = some h) (h0 : 0 ≤ l) (h1 : l ≤ h) (h2 : h ≤ cap) :
    (Instr.sliceBounds sl len cap (lo.map a.eval) (hi.map a.eval) none).run P w = .ok (l.toNat, h.toNat, cap) w := by
  have e2 := fun c => optB_run (P := P) (w := w) (c := c) hR hh (by omega) h2
  have e3 := fun c => optB_run (P := P) (w := w) (c := c) (y := h.toNat) hR hl h0 (by omega)
  cases hi <;> cases lo <;> simp only [Option.map_none, Option.map_some] at e2 e3 ⊢ <;> simp [Instr.sliceBounds, e2, e3] <;> simp at e2 e3 <;> simp [e2, e3]

theorem bounds3_run (hR : R E s a w L) {hi mx : Operand} {lo' : Option Operand} {l h m : Int} {len cap : Nat} (hl : bnd s lo' 0 = some l) (hh : bnd s (some hi) len = some h) (hm : bnd s (some mx) 0 = some m) (h0 : 0 ≤ l) (h1 : l ≤ h) (h2 : h ≤ m) (h3 : m ≤ cap) :
    (Instr.sliceBounds true len cap (lo'.map a.eval) (some (a.eval hi)) (some (a.eval mx))).run P w = .ok (l.toNat, h.toNat, m.toNat) w := by
  have e1 := fun c => optB_run (P := P) (w := w) (c := c) hR hm (by omega) h3
  have e2 := fun c => optB_run (P := P) (w := w) (c := c) (y := m.toNat) hR hh (by omega) (by omega)
  have e3 := fun c => optB_run (P := P) (w := w) (c := c) (y := h.toNat) hR hl h0 (by omega)
  cases lo' <;> simp only [Option.map_none, Option.map_some] at e1 e2 e3 ⊢ <;> simp [Instr.sliceBounds, e1, e2, e3] <;> simp at e3 <;> simp [e3]

theorem extract_size (b : ByteArray) (i j : Nat) (h1 : i ≤ j) (h2 : j ≤ b.size) : (b.extract i j).size ≤ b.size := by
  rw [ByteArray.size_extract]; omega

theorem flat_drop_take {els : List AV} {sz l n : Nat} (hz : ∀ e ∈ els, okE sz e) : flat ((els.drop l).take n) = ((flat els).drop (l * sz)).take (n * sz) := by
  have h1 : ∀ (els : List AV) (l : Nat), (∀ e ∈ els, okE sz e) → flat (els.drop l) = (flat els).drop (l * sz) := by
    intro els
    induction els with
    | nil => intro l _; simp [flat]
    | cons e els ih =>
      intro l h
      cases l with
      | zero => simp
      | succ l =>
        have := ih l fun x hx => h x (by simp [hx])
        have he := (h e (by simp)).1
        unfold flat at *
        simp only [List.drop_succ_cons, List.flatMap_cons]
        rw [this, Nat.add_mul, Nat.one_mul, Nat.add_comm, ← List.drop_drop, List.drop_append, he]
        simp [List.drop_eq_nil_of_le (show (cellsOf e).length ≤ sz by omega)]
  have h2 : ∀ (els : List AV) (n : Nat), (∀ e ∈ els, okE sz e) → flat (els.take n) = (flat els).take (n * sz) := by
    intro els
    induction els with
    | nil => intro l _; simp [flat]
    | cons e els ih =>
      intro l h
      cases l with
      | zero => simp [flat]
      | succ l =>
        have := ih l fun x hx => h x (by simp [hx])
        have he := (h e (by simp)).1
        unfold flat at *
        simp only [List.take_succ_cons, List.flatMap_cons]
        rw [this, Nat.add_mul, Nat.one_mul, List.take_append, he, Nat.add_comm, List.take_of_length_le (show (cellsOf e).length ≤ sz + l * sz by omega)]
        simp
  rw [h2 _ _ fun e he => hz e (List.mem_of_mem_drop he), h1 _ _ hz]

theorem sliceAt_slice {t e : TypeId} (ht : P.underlying t = some (.slice e)) {x : Value} {lo hi mx : Option Value} : (Instr.sliceAt t x lo hi mx).run P w = (Instr.slice t x lo hi mx).run P w := by
  simp [Instr.sliceAt, run_underlying ht]
theorem sliceAt_str {t : TypeId} (ht : P.underlying t = some .string) {x : Value} {lo hi mx : Option Value} : (Instr.sliceAt t x lo hi mx).run P w = (Instr.slice t x lo hi mx).run P w := by
  simp [Instr.sliceAt, run_underlying ht]

theorem slice_did (hR : R E s a w L) {t : TypeId} {lo hi mx : Option Operand} {x : AV} {cx : Value} (hx : Rep E x cx []) (h : outW Sp (sliceO P s (kindT P t) x lo hi mx) K) :
    DidG true E s a w L K ((Instr.sliceAt t cx (lo.map a.eval) (hi.map a.eval) (mx.map a.eval)).run P w) := by
  unfold sliceO at h
  split at h
  · rename_i b hk
    obtain ⟨l, hl, hA⟩ := outW_okO h
    obtain ⟨q, hq, hB⟩ := outW_okO hA
    obtain ⟨⟨hm, h0, h1, h2⟩, hC⟩ := hB
    obtain rfl : mx = none := by simpa using hm
    cases hx with
    | str _ hs =>
      rw [sliceAt_str (kind_str hk)]
      have := bounds_run (P := P) (w := w) (sl := false) (cap := b.size) hR hl hq h0 h1 h2
      simp only [Instr.slice, Sem.run_bind, run_underlying (kind_str hk), Result.andThen_ok, Option.map_none, Option.isSome_none, Bool.false_eq_true, if_false, this, Sem.run_pure]
      exact did_ok hR hC (.str _ (Nat.le_trans (extract_size _ _ _ (by omega) (by omega)) hs))
  · rename_i e fl sz els hk
    obtain ⟨l, hl, hA⟩ := outW_okO h
    obtain ⟨q, hq, hB⟩ := outW_okO hA
    obtain ⟨⟨hm, rfl, hpos, h0, h1, h2⟩, hC⟩ := hB
    obtain rfl : mx = none := by simpa using hm
    have hu := kind_slice hk
    obtain ⟨j, hj⟩ := szT_info hpos
    have hjs : j.size = szT P e := by simp [szT, hj]
    rw [sliceAt_slice hu]
    have main : ∀ (ao : Option Addr) (cap : Nat), els.length ≤ cap → cx = .slice ao els.length cap →
        (Instr.slice t cx (lo.map a.eval) (hi.map a.eval) (Option.map a.eval none)).run P w = .ok (.slice (if cap = l.toNat then ao else ao.map (·.add (l.toNat * szT P e))) (q.toNat - l.toNat) (cap - l.toNat)) w := by
      rintro ao cap hle rfl
      have := bounds_run (P := P) (w := w) (sl := true) (cap := cap) hR hl hq h0 h1 (by omega)
      simp only [Instr.slice, Sem.run_bind, run_underlying hu, Result.andThen_ok, Option.map_none, this, run_sizeOf hj, hjs, Sem.run_pure]
    by_cases hemp : q.toNat - l.toNat = 0
    · have he : (els.drop l.toNat).take (q.toNat - l.toNat) = [] := by rw [hemp]; simp
      rw [he] at hC
      cases hx with
      | lst0 fl sz ao cap => rw [main ao cap (by simp) rfl, hemp]; exact did_ok hR hC (.lst0 _ _ _ _)
      | lst hn hc => rw [main _ _ hc rfl, hemp]; exact did_ok hR hC (.lst0 _ _ _ _)
    · cases hx with
      | lst0 fl sz ao cap => simp at h2; omega
      | @lst _ _ _ b o cap vs hn hc hmx hst hz ha hh =>
        rw [main _ _ hc rfl, if_neg (by omega)]
        simp only [Option.map_some, addr_add]
        have hlen : ((els.drop l.toNat).take (q.toNat - l.toNat)).length = q.toNat - l.toNat := by simp; omega
        rw [← hlen]
        refine did_ok hR hC (.lst (vs := (vs.drop (l.toNat * szT P e)).take ((q.toNat - l.toNat) * szT P e)) (fun h' => by rw [h'] at hlen; simp at hlen; omega) (by omega) (by unfold MX at *; omega) hst (fun e he => hz e (List.mem_of_mem_drop (List.mem_of_mem_take he))) ?_ ?_)
        · intro k v hk
          have : (vs.drop (l.toNat * szT P e))[k]? = some v := by
            rw [List.getElem?_take] at hk
            split at hk <;> first | exact hk | cases hk
          exact ha.drop k v this
        · rw [flat_drop_take hz]
          exact (hh.drop _).take _
  · rename_i e id n off len hk
    obtain ⟨r, hr, hA⟩ := outW_okO h
    obtain ⟨l, hl, hB⟩ := outW_okO hA
    obtain ⟨q, hq, hC⟩ := outW_okO hB
    obtain ⟨m, hm, hD⟩ := outW_okO hC
    obtain ⟨⟨rfl, hle, hsz, hpos, h0, h1, h2, h3⟩, hF⟩ := hD
    have hu := kind_slice hk
    rw [hsz] at hpos
    obtain ⟨j, hj⟩ := szT_info hpos
    have hjs : j.size = szT P e := by simp [szT, hj]
    rw [sliceAt_slice hu]
    obtain ⟨y, hy⟩ := hR.row (rowAt_look hr)
    cases hx with
    | @row _ _ _ _ x _ hg ho hn hv hh =>
      obtain rfl : x = y := by have := hy.g; rw [hg] at this; injection this
      obtain ⟨ao, rfl, hat⟩ := hh hy.n
      have hcap := hy.le
      cases mx with
      | none =>
        have := bounds_run (P := P) (w := w) (sl := true) (cap := x.cap - off) hR hl hq h0 h1 (by omega)
        simp only [Instr.slice, Sem.run_bind, run_underlying hu, Result.andThen_ok, Option.map_none, this, run_sizeOf hj, hjs, Sem.run_pure]
        simp only [Option.isNone_none, if_true] at hF
        refine did_ok hR hF (.row hg ho hn ⟨_, _, rfl⟩ fun _ => ⟨_, by rw [Nat.sub_sub], ?_⟩)
        intro hc
        by_cases hz : x.cap - off = l.toNat
        · rw [if_pos hz]
          have e1 : l.toNat = 0 ∧ off = 0 := by omega
          have := hat (.inr e1.2)
          rw [e1.1, e1.2] at *
          simpa using this
        · rw [if_neg hz, hat (by omega)]
          simp [Option.map_map, Function.comp_def, addr_add, hy.hsz, hsz, Nat.add_mul]
      | some mo =>
        have hmq : m = q ∧ hi.isSome = true := by simpa using h3
        obtain ⟨rfl, hsome⟩ := hmq
        cases hi with
        | none => simp at hsome
        | some hi =>
          have := bounds3_run (P := P) (w := w) (cap := x.cap - off) hR hl hq hm h0 h1 (by omega) (by omega)
          simp only [Instr.slice, Sem.run_bind, run_underlying hu, Result.andThen_ok, Option.map_some, this, run_sizeOf hj, hjs, Sem.run_pure]
          simp only [Option.isNone_some, Bool.false_eq_true, if_false] at hF
          refine did_ok hR hF (.rowc hg ho hn ⟨_, rfl⟩ fun _ => ⟨_, rfl, ?_⟩)
          intro hc
          rw [if_neg (by omega), hat (by omega)]
          simp [Option.map_map, Function.comp_def, addr_add, hy.hsz, hsz, Nat.add_mul]
  · exact h.elim
end Go.Ev
