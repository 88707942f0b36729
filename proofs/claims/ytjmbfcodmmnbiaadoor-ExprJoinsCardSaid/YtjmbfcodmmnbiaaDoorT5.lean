import Derived.Deep.Slices
import Derived.ChangeArms
import Derived.SizedLaws
import Derived.WalkKit
import Derived.ProofKit
import Derived.ChangeStays
import Derived.ReadAgain
import Derived.Handed
import Derived.ChangeCalls
import Derived.OpenShut
import Derived.JoinedCond
import Derived.Below
import Derived.Lib.ItoaLen
import Derived.Lib.AtoiErrMem
import Derived.Sort.Grow
import Derived.Lib.LaidTab
import Derived.Lib.ItoaNum
import Derived.Lib.Split
import Derived.Lib.IndexMore
import Derived.Shelf.Strconv.Itoa4
import Derived.Shelf.Strings.Search3
import Derived.Shelf.Strings.Split
import Derived.Lib.LaidU8
import Derived.Shelf.Vars
import Derived.Test.YtjmbfcodmmnbiaaDoorT4
set_option linter.unusedVariables false
set_option linter.unusedSimpArgs false
/-
A law's arguments, as they are read, as abstract values: what nobody writes.
-/
set_option linter.unusedVariables false
set_option linter.unusedSimpArgs false
namespace Go.Ev
open Go.ChangeShapes Go.Deep

/-- What a cell of a plain type holds. -/
inductive Sh where
  | bool | int (k : IntKind) | str | slice (sz : Nat) (ag : Bool) (e : List Sh)
def shapeF (P : Program) (g : TypeId → Option (List Sh)) : List Field → Nat → Option (List Sh)
  | [], _ => some []
  | f :: r, off => if f.offset ≠ off then none else (g f.type).bind fun a => if szT P f.type = a.length then (shapeF P g r (off + a.length)).map fun b => a ++ b else none
def shapeT (P : Program) : Nat → TypeId → Option (List Sh)
  | 0, _ => none
  | k + 1, t => match P.underlying t with
    | some .bool => some [.bool]
    | some (.int i) => some [.int i]
    | some .string => some [.str]
    | some (.slice e) => (shapeT P k e).bind fun s => if s.length = szT P e ∧ 0 < s.length ∧ 0 < byT P e ∧ (aggT P e = true ∨ s.length = 1) then some [.slice s.length (aggT P e) s] else none
    | some (.struct fs) => (shapeF P (shapeT P k) fs.toList 0).bind fun s => if s.length = szT P t then some s else none
    | _ => none
inductive Fits : List Sh → List AV → Prop where
  | nil : Fits [] []
  | bool {r : List Sh} {q : List AV} (b : Bool) (h : Fits r q) : Fits (.bool :: r) (.bool b :: q)
  | int {r : List Sh} {q : List AV} (k : IntKind) (n : Int) (hn : (Lit.int k n).wf = true) (h : Fits r q) : Fits (.int k :: r) (.int k n :: q)
  | str {r : List Sh} {q : List AV} (s : ByteArray) (hs : s.size ≤ MX) (h : Fits r q) : Fits (.str :: r) (.str s :: q)
  | slice {r : List Sh} {q : List AV} {sz : Nat} {ag : Bool} {e : List Sh} (els : List AV) (hl : els.length ≤ MX) (he : ∀ el ∈ els, Fits e (cellsOf el)) (ha : ∀ el ∈ els, ag = true → ∃ cs, el = .agg cs) (hb : ∀ el ∈ els, ag = false → cellsOf el = [el]) (h : Fits r q) :
      Fits (.slice sz ag e :: r) (.lst false sz els :: q)
theorem Fits.append {s s' : List Sh} {aas aas' : List AV} (h : Fits s aas) (h' : Fits s' aas') : Fits (s ++ s') (aas ++ aas') := by
  induction h with
  | nil => exact h'
  | bool b _ ih => exact .bool b ih
  | int k n hn _ ih => exact .int k n hn ih
  | str s hs _ ih => exact .str s hs ih
  | slice els hl he ha hb _ ih1 ih => exact .slice els hl he ha hb (by assumption)
theorem Fits.length {s : List Sh} {aas : List AV} (h : Fits s aas) : s.length = aas.length := by
  induction h <;> simp_all
theorem Fits.c1 {s : List Sh} {aas : List AV} (h : Fits s aas) : allC1 aas = true := by
  induction h <;> simp_all [allC1, C1]

theorem add_block (a : Addr) (n : Nat) : (a.add n).block = a.block := by unfold Addr.add; split <;> simp
theorem add_off (a : Addr) (n : Nat) : (a.add n).off = a.off + n := by unfold Addr.add; split <;> simp [*]
def rd (W : World) : Env := bare W.heap fun fl b => fl = false ∧ b < W.heap.size

theorem choose_list {α : Type} {p : Nat → α → Prop} : ∀ {n : Nat}, (∀ i, i < n → ∃ x, p i x) → ∃ l : List α, l.length = n ∧ ∀ i x, l[i]? = some x → p i x
  | 0, _ => ⟨[], rfl, fun i x h => by simp at h⟩
  | n + 1, h => by
    obtain ⟨l, h1, h2⟩ := choose_list (n := n) fun i hi => h i (by omega)
    obtain ⟨x, hx⟩ := h n (by omega)
    refine ⟨l ++ [x], by simp [h1], fun i y hy => ?_⟩
    rcases Nat.lt_trichotomy i n with hi | hi | hi
    · rw [List.getElem?_append_left (by omega)] at hy; exact h2 i y hy
    · subst hi
      rw [List.getElem?_append_right (by omega)] at hy
      simp [h1] at hy; subst hy; exact hx
    · rw [List.getElem?_append_right (by omega)] at hy
      have : i - l.length ≠ 0 := by omega
      obtain ⟨k, hk⟩ := Nat.exists_eq_succ_of_ne_zero this
      rw [hk] at hy; simp at hy

section
variable {H : Type} {enc : TypeId × Value → H} {P : Program} {W : World}
theorem weights_mem {e : TypeId} {ds : List (DataW H)} {d : DataW H} (h : d ∈ ds) : ∀ n ∈ d.weights P e, n ∈ DataW.weightsAll P e ds := by
  induction ds with
  | nil => cases h
  | cons x ds ih =>
    intro n hn
    simp only [DataW.weightsAll, List.mem_append]
    cases h with
    | head => exact .inl hn
    | tail _ h => exact .inr (ih h n hn)
/-- Cells one behind the other. -/
theorem repL_flat {E : Env} : ∀ {els : List AV} {vss : List (List Value)}, els.length = vss.length → (∀ (i : Nat) (e : AV) (vs : List Value), els[i]? = some e → vss[i]? = some vs → RepL E (cellsOf e) vs []) → RepL E (flat els) vss.flatten []
  | [], [], _, _ => .nil
  | e :: els, vs :: vss, hl, h => by
    have h1 := h 0 e vs rfl rfl
    have h2 := repL_flat (els := els) (vss := vss) (by simpa using hl) fun i e' vs' he hv => h (i + 1) e' vs' (by simpa using he) (by simpa using hv)
    have := h1.append h2
    simpa [flat] using this
  | [], _ :: _, hl, _ => by simp at hl
  | _ :: _, [], hl, _ => by simp at hl
theorem at_flat {h : Array Obj} {b o sz : Nat} : ∀ {vss : List (List Value)}, (∀ i vs, vss[i]? = some vs → vs.length = sz ∧ At h b (o + i * sz) vs) → At h b o vss.flatten
  | [], _ => fun k v hk => by simp at hk
  | vs :: vss, hh => by
    obtain ⟨hl, h0⟩ := hh 0 vs rfl
    have ih := at_flat (o := o + sz) (vss := vss) fun i vs' hv => by
      have := hh (i + 1) vs' (by simpa using hv)
      refine ⟨this.1, ?_⟩
      have e : o + sz + i * sz = o + (i + 1) * sz := by rw [Nat.add_mul]; omega
      rw [e]; exact this.2
    intro k v hk
    rw [List.flatten_cons] at hk
    by_cases hlt : k < vs.length
    · rw [List.getElem?_append_left hlt] at hk
      have := h0 k v hk
      simpa using this
    · rw [List.getElem?_append_right (by omega)] at hk
      have := ih (k - vs.length) v hk
      have e : o + sz + (k - vs.length) = o + k := by omega
      rw [e] at this; exact this

theorem fields_read {n : Nat} {g : TypeId → Option (List Sh)} (IH : ∀ t cs d ps s, DataW.trod enc P W 0 (fun _ => true) true n t cs = some (d, ps) → g t = some s → (∀ m ∈ d.weights P t, m ≤ reachBytes) → ∃ aas, RepL (rd W) aas cs [] ∧ Fits s aas) :
    ∀ {fs : List Field} {off : Nat} {s : List Sh} {cs : List Value} {xs : List (DataW H × List MemPlace)}, shapeF P g fs off = some s → xs.length = fs.length →
      (∀ (i : Nat) (f : Field), fs[i]? = some f → DataW.trod enc P W 0 (fun _ => true) true n f.type ((cs.drop f.offset).take (P.cellsOf f.type)) = xs[i]?) → cs.length = off + s.length →
      (∀ m ∈ DataW.weightsEach P (fs.map (·.type)) (xs.map (·.1)), m ≤ reachBytes) → ∃ aas, RepL (rd W) aas (cs.drop off) [] ∧ Fits s aas
  | [], off, s, cs, xs, hs, _, _, hl, _ => by
    injection hs with hs; subst hs
    refine ⟨[], ?_, .nil⟩
    rw [List.drop_eq_nil_of_le (by simp at hl; omega)]; exact .nil
  | f :: fs, off, s, cs, xs, hs, hx, ht, hl, hw => by
    simp only [shapeF] at hs
    split at hs
    · cases hs
    · rename_i ho
      have ho : f.offset = off := Decidable.not_not.1 ho
      simp only [Option.bind_eq_some_iff] at hs
      obtain ⟨a, ha, hs⟩ := hs
      split at hs
      · rename_i hsz
        simp only [Option.map_eq_some_iff] at hs
        obtain ⟨b, hb, rfl⟩ := hs
        cases xs with
        | nil => simp at hx
        | cons x xs =>
          have h0 := ht 0 f rfl
          simp only [List.getElem?_cons_zero] at h0
          have hszc : P.cellsOf f.type = a.length := hsz
          rw [ho, hszc] at h0
          obtain ⟨aas, r1, f1⟩ := IH _ _ x.1 x.2 _ h0 ha fun m hm => hw m (by simp only [List.map_cons, DataW.weightsEach, List.mem_append]; exact .inl hm)
          obtain ⟨bs, r2, f2⟩ := fields_read IH hb (cs := cs) (by simpa using hx) (fun i f' hf => by simpa using ht (i + 1) f' (by simpa using hf)) (by simp at hl; omega) fun m hm => hw m (by simp only [List.map_cons, DataW.weightsEach, List.mem_append]; exact .inr hm)
          refine ⟨aas ++ bs, ?_, f1.append f2⟩
          have e : cs.drop off = (cs.drop off).take a.length ++ cs.drop (off + a.length) := by
            rw [← List.drop_drop, List.take_append_drop]
          rw [e]
          exact r1.append r2
      · cases hs

theorem read_rep : ∀ (fuel k : Nat) (t : TypeId) (cs : List Value) (d : DataW H) (ps : List MemPlace) (s : List Sh), DataW.trod enc P W 0 (fun _ => true) true fuel t cs = some (d, ps) → shapeT P k t = some s →
    (∀ m ∈ d.weights P t, m ≤ reachBytes) → ∃ aas, RepL (rd W) aas cs [] ∧ Fits s aas
  | 0, _, _, _, _, _, _, h, _, _ => by simp [DataW.trod] at h
  | _ + 1, 0, _, _, _, _, _, _, h, _ => by cases h
  | n + 1, k + 1, t, cs, d, ps, s, h, hs, hw => by
    simp only [shapeT] at hs
    have hr := reachBytes_lt
    split at hs
    · rename_i hu
      injection hs with hs; subst hs
      unfold DataW.trod at h
      rw [hu] at h
      split at h <;> simp_all
      rename_i b
      exact ⟨[.bool b], .cons (m := []) (.bool b) .nil, .bool b .nil⟩
    · rename_i i hu
      injection hs with hs; subst hs
      unfold DataW.trod at h
      rw [hu] at h
      split at h <;> simp_all
      rename_i n' _
      obtain ⟨⟨rfl, hwf⟩, _⟩ := h
      exact ⟨[.int _ n'], .cons (m := []) (.int _ n') .nil, .int _ n' hwf .nil⟩
    · rename_i hu
      injection hs with hs; subst hs
      unfold DataW.trod at h
      rw [hu] at h
      split at h <;> simp_all
      rename_i st
      obtain ⟨hm, rfl, rfl⟩ := h
      have hsz : st.size ≤ MX := by
        have := hw st.data.toList.length (by simp [DataW.weights])
        have e : st.data.toList.length = st.size := by simp
        unfold MX; omega
      exact ⟨[.str st], .cons (m := []) (.str st hsz) .nil, .str st hsz .nil⟩
    · rename_i e hu
      simp only [Option.bind_eq_some_iff] at hs
      obtain ⟨se, hse, hs⟩ := hs
      split at hs
      · rename_i hc
        obtain ⟨hc1, hc2, hc3, hc4⟩ := hc
        injection hs with hs; subst hs
        have hcell : P.cellsOf e = se.length := hc1.symm
        rcases open_slice hu h with ⟨rfl, _⟩ | ⟨a, len, cap, m, n', D, Pl, rfl, _, hlc, hcm, hm, hx, hi⟩
        · exact ⟨[.lst false se.length []], .cons (m := []) (.lst0 _ _ _ _) .nil, .slice [] (by simp) (by simp) (by simp) (by simp) .nil⟩
        · injection hx with hd hps
          subst hd
          have hmc : m = cap := by simpa using hm
          have hw' : (len + (m - len)) * P.bytesOf e ≤ reachBytes := hw _ (by simp [DataW.weights, hu])
          have hlen : len ≤ MX := by
            have : 0 < P.bytesOf e := hc3
            have h2 : len + (m - len) ≤ (len + (m - len)) * P.bytesOf e := Nat.le_mul_of_pos_right _ this
            unfold MX; omega
          obtain ⟨L, hL, hLp⟩ := choose_list (α := List AV × List Value) (n := len) (p := fun i x => W.cells? 0 (a.add (i * P.cellsOf e)) (P.cellsOf e) = some x.2 ∧ RepL (rd W) x.1 x.2 [] ∧ Fits se x.1) fun i hlt => by
            obtain ⟨cs', h1, h2⟩ := hi i (by omega)
            obtain ⟨aas, r1, f1⟩ := read_rep n' k e cs' (D i) (Pl i) se h2 hse fun x hx => hw x (by
              simp only [DataW.weights, hu, List.mem_cons, List.mem_append]
              exact .inr (.inl (weights_mem (List.mem_map.2 ⟨i, by simpa using hlt, rfl⟩) x hx)))
            exact ⟨(aas, cs'), h1, r1, f1⟩
          by_cases h0 : len = 0
          · subst h0
            exact ⟨[.lst false se.length []], .cons (m := []) (.lst0 _ _ _ _) .nil, .slice [] (by simp) (by simp) (by simp) (by simp) .nil⟩
          · let mk : List AV → AV := fun aas => if aggT P e = true then .agg aas else aas.headD .undef
            have hmk : ∀ (i : Nat) (x : List AV × List Value), L[i]? = some x → cellsOf (mk x.1) = x.1 ∧ okE se.length (mk x.1) := fun i x hx => by
              have hf := (hLp i x hx).2.2
              have hl1 := hf.length
              by_cases hag : aggT P e = true
              · simp only [mk, hag, if_true, okE, cellsOf]
                exact ⟨trivial, hl1.symm, hf.c1⟩
              · have h1 : se.length = 1 := by simpa [hag] using hc4
                rw [h1] at hl1
                obtain ⟨y, hx1⟩ : ∃ y, x.1 = [y] := by
                  match x.1, hl1 with
                  | [y], _ => exact ⟨y, rfl⟩
                have hc := hf.c1
                rw [hx1] at hc
                have hy : cellsOf y = [y] := by
                  cases y <;> simp [allC1, C1] at hc <;> rfl
                have e : mk x.1 = y := by simp only [mk, hag, hx1]; rfl
                rw [e]
                refine ⟨by rw [hy, hx1], ?_⟩
                unfold okE
                rw [hy, h1]
                exact ⟨rfl, hc⟩
            have hcells : ∀ (i : Nat) (x : List AV × List Value), L[i]? = some x → x.2.length = se.length ∧ At W.heap a.block (a.off + i * se.length) x.2 ∧ (i = 0 → a.spot = none) ∧ a.block < W.heap.size := fun i x hx => by
              have h1 := (hLp i x hx).1
              rw [hcell] at h1
              obtain ⟨_, hl, hg⟩ := World.cells?_some h1
              have hone : ∀ (q : Nat) (v : Value), x.2[q]? = some v → (W.cell? ((a.add (i * se.length)).add q) = some v) := fun q v hq => by
                have hq' : q < se.length := by have := (List.getElem?_eq_some_iff.1 hq).1; omega
                rw [hg q hq']; exact hq
              have hval : ∀ (q : Nat) (v : Value), x.2[q]? = some v → cellAt W.heap a.block (a.off + i * se.length + q) = some v ∧ (i = 0 → q = 0 → a.spot = none) ∧ a.block < W.heap.size := fun q v hq => by
                have h1 := hone q v hq
                unfold World.cell? at h1
                rw [add_block, add_block, add_off, add_off] at h1
                split at h1
                · rename_i c ty fr hb
                  have hlt : a.block < W.heap.size := by
                    rcases Nat.lt_or_ge a.block W.heap.size with h | h
                    · exact h
                    · rw [Array.getElem?_eq_none h] at hb; cases hb
                  split at h1
                  · cases h1
                  · rename_i hsp
                    refine ⟨?_, fun hi0 hq0 => ?_, hlt⟩
                    · unfold cellAt
                      rw [hb]; exact h1
                    · subst hi0 hq0
                      simp only [Nat.zero_mul] at hsp
                      have e : (a.add 0).add 0 = a := by unfold Addr.add; simp
                      rw [e] at hsp
                      cases h : a.spot with
                      | none => rfl
                      | some z => rw [h] at hsp; simp at hsp
                · cases h1
              refine ⟨hl, fun q v hq => (hval q v hq).1, ?_⟩
              have : 0 < x.2.length := by omega
              obtain ⟨v, hv⟩ : ∃ v, x.2[0]? = some v := ⟨x.2[0], List.getElem?_eq_getElem this⟩
              exact ⟨fun hi0 => (hval 0 v hv).2.1 hi0 rfl, (hval 0 v hv).2.2⟩
            have hne : L ≠ [] := by intro e; rw [e] at hL; simp at hL; omega
            obtain ⟨x0, hx0⟩ : ∃ x, L[0]? = some x := by
              cases L with
              | nil => exact absurd rfl hne
              | cons x _ => exact ⟨x, rfl⟩
            obtain ⟨_, _, hspot, hblk⟩ := hcells 0 x0 hx0
            have hspot := hspot rfl
            have haddr : a = ⟨a.block, a.off, none⟩ := by cases a; simp at hspot; subst hspot; rfl
            refine ⟨[.lst false se.length (L.map fun x => mk x.1)], .cons (l := []) (m := []) ?_ .nil, .slice _ (by simp [hL]; exact hlen) ?_ ?_ ?_ .nil⟩
            · have key : Rep (rd W) (.lst false se.length (L.map fun x => mk x.1)) (.slice (some ⟨a.block, a.off, none⟩) (L.map fun x => mk x.1).length cap) [] := by
                refine .lst (vs := (L.map (·.2)).flatten) (by simpa using hne) (by simp [hL]; exact hlc) (by simp [hL]; exact hlen) ⟨rfl, hblk⟩ ?_ ?_ ?_
                · intro el hel
                  obtain ⟨x, hx, rfl⟩ := List.mem_map.1 hel
                  obtain ⟨i, hi⟩ := List.getElem?_of_mem hx
                  exact (hmk i x hi).2
                · refine at_flat (sz := se.length) fun i vs hv => ?_
                  rw [List.getElem?_map] at hv
                  obtain ⟨x, hx, rfl⟩ := Option.map_eq_some_iff.1 hv
                  exact ⟨(hcells i x hx).1, (hcells i x hx).2.1⟩
                · refine repL_flat (by simp) fun i el vs he hv => ?_
                  rw [List.getElem?_map] at he hv
                  obtain ⟨x, hx, rfl⟩ := Option.map_eq_some_iff.1 he
                  rw [hx] at hv; simp at hv; subst hv
                  rw [(hmk i x hx).1]
                  exact (hLp i x hx).2.1
              rw [← haddr] at key
              simpa [hL] using key
            · intro el hel
              obtain ⟨x, hx, rfl⟩ := List.mem_map.1 hel
              obtain ⟨i, hi⟩ := List.getElem?_of_mem hx
              rw [(hmk i x hi).1]
              exact (hLp i x hi).2.2
            · intro el hel hag
              obtain ⟨x, hx, rfl⟩ := List.mem_map.1 hel
              exact ⟨x.1, by simp [mk, hag]⟩
            · intro el hel hag
              obtain ⟨x, hx, rfl⟩ := List.mem_map.1 hel
              obtain ⟨i, hi⟩ := List.getElem?_of_mem hx
              have h1 : se.length = 1 := by simpa [hag] using hc4
              have h2 := (hLp i x hi).2.2.length
              rw [h1] at h2
              rw [(hmk i x hi).1]
              obtain ⟨y, hy⟩ : ∃ y, x.1 = [y] := by
                match x.1, h2 with
                | [y], _ => exact ⟨y, rfl⟩
              rw [hy]
              simp [mk, hag]
      · cases hs
    · rename_i fs hu
      simp only [Option.bind_eq_some_iff] at hs
      obtain ⟨s', hs', hs⟩ := hs
      split at hs
      · rename_i hl
        injection hs with hs; subst hs
        obtain ⟨xs, n', hn, hx, hcl, hxl, hf⟩ := DataW.trod_struct hu h
        injection hn with hn; subst hn
        injection hx with hd hps
        subst hd
        have := fields_read (IH := fun t cs d ps s h1 h2 h3 => read_rep n k t cs d ps s h1 h2 h3) hs' (cs := cs) (xs := xs) (by simpa using hxl) (fun i f hif => hf i f (by simpa using hif)) (by
          have : P.cellsOf t = s'.length := hl.symm
          omega) (by
          intro m hm
          exact hw m (by simp only [DataW.weights, hu]; exact hm))
        simpa using this
      · cases hs
    · cases hs
end
end Go.Ev

/-
From a call that comes to 'true', and leaves what was there, to a law's row.
-/
set_option linter.unusedVariables false
namespace Go.Row
open Go.ChangeShapes Go.WideShapes Go.ChangeAt Go.RowKit

/-- 'true', and all that was there is as it was. -/
def Good (W : World) (e : Ending) (W' : World) : Prop := e = .returned (.bool true) ∧ W.heap.size ≤ W'.heap.size ∧ (∀ b, b < W.heap.size → W'.heap[b]? = W.heap[b]?) ∧ W'.os = W.os ∧ W'.output = W.output

section
variable {H : Type} {enc : TypeId × Value → H} {P : Program} {W W' : World}

theorem kept_of (h1 : ∀ b, b < W.heap.size → W'.heap[b]? = W.heap[b]?) (h2 : W'.os = W.os) (h3 : W'.output = W.output) (may : MemPlace → Prop) : W.keptBut W' may := by
  refine ⟨h2, h3, fun i hi => ?_⟩
  rw [h1 i hi]
  split
  · rename_i c t fr c' t' fr' e1 e2
    rw [e1] at e2; injection e2 with e2; injection e2 with a b c
    subst a b c
    exact ⟨rfl, rfl, rfl, fun _ _ => rfl⟩
  · rename_i e1 e2
    rw [e1] at e2; injection e2 with e2; injection e2 with a b
    subst a b
    exact .inr ⟨rfl, rfl⟩
  · rename_i e1 e2
    first | rfl | (rw [e1] at e2; exact e2.symm)
theorem same_of (h1 : ∀ b, b < W.heap.size → W'.heap[b]? = W.heap[b]?) {p : MemPlace} (hp : p.block < W.heap.size) : W.sameAt W' p := by
  cases p with
  | cell b off =>
    show W'.cell? _ = W.cell? _
    unfold World.cell?
    rw [h1 b hp]
  | map b => exact h1 b hp

theorem trodAll_stays {T : TypeId → Prop} (K : Kids P T) (hz : ∀ {t e : TypeId}, T t → P.underlying t = some (.slice e) → 0 < P.cellsOf e) (h1 : ∀ b, b < W.heap.size → W'.heap[b]? = W.heap[b]?) {sp : Nat → Bool} :
    ∀ {ts : List TypeId} {vs : List Value} {ds : List (DataW H)} {ps : List MemPlace}, (∀ t ∈ ts, T t) → DataW.TrodAll enc P W 0 (fun _ => true) true ts vs ds ps → (∀ p ∈ ps, sp p.block = true) → DataW.TrodAll enc P W' 0 sp true ts vs ds ps
  | [], [], [], _, _, h, _ => h
  | _ :: _, _ :: _, _ :: _, _, hT, ⟨p, q, ⟨n, hn⟩, h2, e⟩, hs => by
    subst e
    refine ⟨p, q, ⟨n, DataW.trod_stays K hz (fun h => by cases h) (hT _ (by simp)) hn (fun x hx => same_of h1 (DataW.trod_lt n _ _ _ hn x hx)) fun x hx => hs x (List.mem_append_left _ hx)⟩, trodAll_stays K hz h1 (fun t ht => hT t (by simp [ht])) h2 (fun x hx => hs x (List.mem_append_right _ hx)), rfl⟩

/-- A law's post. -/
theorem law_post {f : Func} {s : ChangeSpec} {apart fresh handsOn again : Bool} {args : Array Value} {ds gs : List (DataW H)} {before : List MemPlace} {tb : TypeId} {e : Ending}
    (hl : laidOutB P = true) (hm : mapsRowed P = true) (hz : ∀ t e, t < P.types.size → P.underlying t = some (.slice e) → 0 < P.cellsOf e)
    (hT : ∀ t ∈ f.params.toList, t < P.types.size) (hvars : s.vars = []) (hres : f.resultTypes = #[tb]) (hb : P.underlying tb = some .bool)
    (hfn : ∀ ds : List (DataW H), ds.length = f.params.toList.length → s.fn H ds = { results := [.lit (.bool true)], args := ds })
    (hW : DataW.Whole enc P f.params.toList s.vars apart W args.toList ds gs before) (hg : Good W e W') :
    ∃ v, e = .returned v ∧ s.post enc P f apart fresh handsOn again W args v W' := by
  obtain ⟨rfl, hsz, hold, hos, hout⟩ := hg
  refine ⟨_, rfl, ?_⟩
  have hW0 := hW
  obtain ⟨pa, pv, hA, hV, rfl, hfz, hn⟩ := hW
  have hgs : gs = [] ∧ pv = [] := by rw [hvars] at hV; exact trodVars_none hV
  obtain ⟨rfl, rfl⟩ := hgs
  have hlen := (trodAll_length hA).2
  have hf := hfn (ds ++ []) (by simpa using hlen)
  have hK := kids_rows hl hm
  have hz' : ∀ {t e : TypeId}, t < P.types.size → P.underlying t = some (.slice e) → 0 < P.cellsOf e := fun {t e} => hz t e
  have hlt : ∀ p ∈ pa, p.block < W.heap.size := hA.lt
  have hrl : (Value.bool true).resultList f.resultTypes.size = [.bool true] := by rw [hres]; rfl
  have hr : ∀ (b : Nat) (sp : Nat → Bool) (hd : Bool), DataW.TrodAll enc P W' b sp hd f.resultTypes.toList ((Value.bool true).resultList f.resultTypes.size) (s.fn H (ds ++ [])).results [] := fun b sp hd => by
    rw [hrl, hf, hres]
    exact trodAll_cons_mk (shut_bool hb _) trodAll_mk0
  have ha : ∀ sp : Nat → Bool, (∀ p ∈ pa, sp p.block = true) → DataW.TrodAll enc P W' 0 sp true f.params.toList args.toList (s.fn H (ds ++ [])).args pa := fun sp hsp => by
    rw [hf]
    simpa using trodAll_stays hK hz' hold hT hA hsp
  have hv : ∀ sp : Nat → Bool, DataW.TrodVars enc P W' sp s.vars (s.fn H (ds ++ [])).vars [] := fun sp => by
    rw [hf, hvars]; rfl
  refine ⟨ds, [], pa ++ [], [], pa, [], hW0, hr _ _ _, ha _ (fun p hp => by simpa using hlt p hp), hv _, kept_of hold hos hout _, fun _ => ⟨fun j t r hj hr' => ?_, _, _, ([] ++ pa) ++ [], ⟨[] ++ pa, [], trodAll_append (ha _ (fun _ _ => rfl)) (hr _ _ _), hv _, rfl, fun b off hp => ?_, fun ha' => ?_⟩, fun p hp _ => ?_⟩⟩
  · rw [hres] at hj
    rw [hrl] at hr'
    cases j with
    | zero =>
      simp at hj hr'
      subst hj hr'
      exact okWide_bool_mk hb _
    | succ j => simp at hj
  · have hp' : MemPlace.cell b off ∈ pa := by simpa using hp
    have hblk : b < W.heap.size := hlt _ hp'
    have : W'.frozen? ⟨b, off, none⟩ = W.frozen? ⟨b, off, none⟩ := by unfold World.frozen?; rw [hold b hblk]
    first
      | (rw [this]; exact hfz b off (by simpa using hp'))
      | exact this ▸ hfz b off (by simpa using hp')
  · have := hn ha'
    simpa using this
  · simpa using hp
end
end Go.Row

/-
From the specification of a law to its row; the closed evaluator's word as a specification.
-/
set_option linter.unusedVariables false
set_option linter.unusedSimpArgs false
namespace Go.Ev
open Go.ChangeShapes

theorem row_calls {P : Program} {f : FuncId} {targs outs : List AV} (hs : Spec P f targs (.bool true) outs) (W : World) {args : Array Value} (hr : RepL (rd W) targs args.toList []) (hG : Gk P (rd W)) : Calls P f args W (Row.Good W) := by
  have ho : Own (bare W.heap fun fl b => fl = false ∧ b < W.heap.size) [] := ⟨List.nodup_nil, by simp, by simp, fun fl b h => h.2, fun b h => by cases h.1⟩
  refine (hs.2 W _ args [] hr ho hG).mono fun e w' ⟨v, st', L', he, hrep, _, hg⟩ => ?_
  cases hrep with
  | cons h t =>
    cases h
    exact ⟨he, hg.size, fun b hb => hg.keep b hb (by simp), hg.os, hg.output⟩

section
variable {H : Type} {enc : TypeId × Value → H} {P : Program} {W : World}
theorem agg_not_ok {r : Reach} {base : Nat} {t : TypeId} {cs : Array Value} (hv : Value.okWide P W r base t (.agg cs)) : aggT P t = true := by
  unfold aggT
  unfold Value.okWide at hv
  split at hv
  · rename_i h; rw [h]
  · rename_i h; rw [h]
  · rename_i h1 h2
    unfold Cell.okWide at hv
    split at hv
    all_goals first
      | contradiction
      | (unfold Cell.ok at hv; split at hv <;> first | contradiction | (rename_i h; cases h) | exact hv.elim)
/-- An argument, as an abstract value. -/
theorem arg_rep {base k : Nat} {t : TypeId} {v : Value} {d : DataW H} {ps : List MemPlace} {s : List Sh} (ht : shapeT P k t = some s) (hv : Value.okWide P W .any base t v) (hd : DataW.Trod enc P W 0 (fun _ => true) true t v d ps)
    (hw : ∀ m ∈ d.weights P t, m ≤ reachBytes) : ∃ a, Rep (rd W) a v [] ∧ ((aggT P t = true ∧ ∃ cs, a = .agg cs ∧ Fits s cs) ∨ (aggT P t = false ∧ Fits s [a])) := by
  obtain ⟨fuel, hf⟩ := hd
  obtain ⟨aas, hr, hfit⟩ := read_rep fuel k t _ d ps s hf ht hw
  by_cases ha : ∃ cs, v = .agg cs
  · obtain ⟨cs, rfl⟩ := ha
    exact ⟨.agg aas, .agg hr, .inl ⟨agg_not_ok hv, aas, rfl, hfit⟩⟩
  · have hc : v.cells = #[v] := by cases v <;> first | rfl | exact absurd ⟨_, rfl⟩ ha
    rw [hc] at hr
    have hna : aggT P t = false := by
      cases h : aggT P t with
      | false => rfl
      | true =>
        unfold aggT at h
        unfold Value.okWide at hv
        split at h
        · rename_i fs hu; rw [hu] at hv; obtain ⟨cs, e, _⟩ := hv; exact absurd ⟨cs, e⟩ ha
        · rename_i n e hu; rw [hu] at hv; obtain ⟨cs, e, _⟩ := hv; exact absurd ⟨cs, e⟩ ha
        · cases h
    cases aas with
    | nil => have := hr.length; simp at this
    | cons cv r1 =>
      obtain ⟨x, xs, l1, l2, e1, hl', h1', h2⟩ := hr.inv
      obtain ⟨rfl, rfl⟩ : l1 = [] ∧ l2 = [] := by simpa using hl'.symm
      have e1 : [v] = x :: xs := e1
      injection e1 with e1 e2
      subst e1 e2
      cases r1 with
      | nil => exact ⟨cv, h1', .inr ⟨hna, hfit⟩⟩
      | cons _ _ => have := h2.length; simp at this
end

theorem els_map {α : Type} {enc : α → AV} {p : α → Prop} : ∀ {els : List AV}, (∀ e ∈ els, ∃ x, e = enc x ∧ p x) → ∃ l : List α, els = l.map enc ∧ ∀ x ∈ l, p x
  | [], _ => ⟨[], rfl, by simp⟩
  | e :: els, h => by
    obtain ⟨x, rfl, hx⟩ := h e (by simp)
    obtain ⟨l, rfl, hl⟩ := els_map (els := els) fun e he => h e (by simp [he])
    exact ⟨x :: l, rfl, by simpa using ⟨hx, hl⟩⟩
theorem fits_slice {sz : Nat} {e : List Sh} {a : AV} (h : Fits [.slice sz true e] [a]) : ∃ els, a = .lst false sz els ∧ els.length ≤ MX ∧ ∀ el ∈ els, ∃ cs, el = .agg cs ∧ Fits e cs := by
  cases h with
  | slice els hl he ha hb h =>
    refine ⟨els, rfl, hl, fun el hel => ?_⟩
    obtain ⟨cs, rfl⟩ := ha el hel rfl
    exact ⟨cs, rfl, he _ hel⟩
theorem fits_slice1 {sz : Nat} {e : List Sh} {a : AV} (h : Fits [.slice sz false e] [a]) : ∃ els, a = .lst false sz els ∧ els.length ≤ MX ∧ ∀ el ∈ els, Fits e [el] := by
  cases h with
  | slice els hl he ha hb h =>
    refine ⟨els, rfl, hl, fun el hel => ?_⟩
    have := he _ hel
    rwa [hb el hel rfl] at this
theorem fits_int {k : IntKind} {a : AV} (h : Fits [.int k] [a]) : ∃ n, a = .int k n ∧ (Lit.int k n).wf = true := by
  cases h with
  | int _ n hn _ => exact ⟨n, rfl, hn⟩
theorem fits_bool {a : AV} (h : Fits [.bool] [a]) : ∃ b, a = .bool b := by
  cases h with
  | bool b _ => exact ⟨b, rfl⟩
theorem fits_str {a : AV} (h : Fits [.str] [a]) : ∃ s : ByteArray, a = .str s ∧ s.size ≤ MX := by
  cases h with
  | str s hs _ => exact ⟨s, rfl, hs⟩
end Go.Ev

/-
The closed evaluator's word as a specification.
-/
set_option linter.unusedVariables false
set_option linter.unusedSimpArgs false
namespace Go.Ev
open Go.ChangeShapes

theorem cellAt_is {w : World} {k : Nat} : w.cell? ⟨k, 0, none⟩ = cellAt w.heap k 0 := by
  unfold World.cell? cellAt
  dsimp only
  generalize w.heap[k]? = o
  rcases o with _ | o
  · rfl
  · cases o <;> rfl
theorem glob_gk {P : Program} {w : World} {st : Bool → Nat → Prop} (h : Gk P (bare w.heap st)) : Eb.GlobOk P w := fun k hk => by
  obtain ⟨_, c, h2, h3⟩ := h.var k hk
  exact ⟨c, cellAt_is.trans h2, by rcases h3 with rfl | ⟨t, p, rfl⟩ <;> rfl⟩
theorem cell_lt {w : World} {k : Nat} {c : Value} (h : cellAt w.heap k 0 = some c) : k < w.heap.size := by
  rcases Nat.lt_or_ge k w.heap.size with hk | hk
  · exact hk
  · unfold cellAt at h
    rw [Array.getElem?_eq_none hk] at h
    cases h
theorem gk_of {P : Program} {w : World} (h : ∀ k, gok P k = true → ∃ c, w.cell? ⟨k, 0, none⟩ = some c ∧ (c = .nilIface ∨ ∃ t p, c = .iface t p)) (hm : ∀ k, gmx P k = true → ∃ m, w.cell? ⟨k, 0, none⟩ = some (.int .i64 m))
    (ht : ∀ k, gtb P k = true → ∃ cs ty fr, w.heap[k]? = some (.cells cs ty fr) ∧ cs.toList = tens) : Gk P (rd w) := by
  refine ⟨fun k hk => ?_, fun k hk => ?_, fun k hk => ?_⟩
  · obtain ⟨c, h2, h3⟩ := h k hk
    rw [cellAt_is] at h2
    exact ⟨⟨rfl, cell_lt h2⟩, c, h2, h3⟩
  · obtain ⟨c, h2⟩ := hm k hk
    rw [cellAt_is] at h2
    exact ⟨⟨rfl, cell_lt h2⟩, c, h2⟩
  · obtain ⟨cs, ty, fr, h2, h3⟩ := ht k hk
    refine ⟨⟨rfl, ?_⟩, cs, ty, fr, h2, h3⟩
    exact (Array.getElem?_eq_some_iff.1 h2).1
theorem spec_closed {P : Program} {f : FuncId} (hb : (Eb.bodyOf P f).isSome = true) {kn : List (Nat × Eb.KS)} (hkn : Eb.Known P kn) {d : Nat} (h : Eb.runB P kn d f [] .e 0 Eb.isTrue = some ()) : Spec P f [] (.bool true) [] := by
  refine ⟨?_, fun w st vs L hr ho hG => ?_⟩
  · unfold Eb.bodyOf at hb
    split at hb
    · rename_i fn hf
      split at hb
      · rename_i c hc
        split at hb
        · cases hb
        · rename_i hn
          exact ⟨fn, hf, hn, by rw [hc]; rfl⟩
      · cases hb
    · cases hb
  · obtain ⟨xs⟩ := vs
    cases hr
    refine (Eb.closed_call hkn h w (glob_gk hG) (cargs := #[]) .nil).mono fun e w' ⟨ha, he⟩ => ?_
    refine ⟨.bool true, st, [], he, .cons (l := []) (m := []) (.bool true) .nil, ⟨List.nodup_nil, by simp, by simp, fun fl b hb => ?_, ho.sub⟩, ha.size, fun b hb _ => ha.old b hb, fun _ _ h => h, fun _ h => .inl h, fun _ _ h => .inl h, by simp, ha.os, ha.tape, ha.output⟩
    exact Nat.lt_of_lt_of_le (ho.stlt fl b hb) ha.size

theorem glob_none {P : Program} (h : ((List.range P.globals.size).all fun k => !Eb.globOk P k) = true) (w : World) : Eb.GlobOk P w := fun k hk => by
  by_cases hlt : k < P.globals.size
  · have := List.all_eq_true.1 h k (by simpa using hlt)
    rw [hk] at this; cases this
  · unfold Eb.globOk at hk
    rw [Array.getElem?_eq_none (by omega)] at hk
    cases hk
end Go.Ev

/-
Contracts of the library as specifications.
-/
set_option linter.unusedVariables false
set_option linter.unusedSimpArgs false
namespace Go.Ev
open Go.ChangeShapes
variable {P : Program}
/-- What was there stands. -/
structure Quiet (w w' : World) : Prop where
  size : w.heap.size ≤ w'.heap.size
  old : ∀ b, b < w.heap.size → w'.heap[b]? = w.heap[b]?
  os : w'.os = w.os
  tape : w'.tape = w.tape
  output : w'.output = w.output
theorem Quiet.refl (w : World) : Quiet w w := ⟨Nat.le_refl _, fun _ _ => rfl, rfl, rfl, rfl⟩
theorem Quiet.below {w w' : World} (h : RowKit.Below w.heap.size w w') : Quiet w w' := ⟨h.size, h.block, h.os, h.tape, h.output⟩
theorem Quiet.trans {w w' w'' : World} (h : Quiet w w') (h' : Quiet w' w'') : Quiet w w'' := ⟨Nat.le_trans h.size h'.size, fun b hb => (h'.old b (Nat.lt_of_lt_of_le hb h.size)).trans (h.old b hb), h'.os.trans h.os, h'.tape.trans h.tape, h'.output.trans h.output⟩
theorem Quiet.grow {w : World} {k : Nat} {os : Array Obj} : Quiet w (Sort.grow (w.drewN k) os) := by
  refine ⟨?_, fun b hb => ?_, rfl, rfl, rfl⟩
  · show w.heap.size ≤ (w.heap ++ os).size
    simp
  · show (w.heap ++ os)[b]? = _
    rw [Array.getElem?_append_left hb]
/-- Values of one cell that stand for themselves in any memory. -/
inductive Sc : AV → Value → Prop where
  | bool (b : Bool) : Sc (.bool b) (.bool b)
  | int (k : IntKind) (n : Int) : Sc (.int k n) (.int k n)
  | str (s : ByteArray) (h : s.size ≤ MX) : Sc (.str s) (.string s)
inductive ScL : List AV → List Value → Prop where
  | nil : ScL [] []
  | cons {a : AV} {v : Value} {cs : List AV} {vs : List Value} (h : Sc a v) (t : ScL cs vs) : ScL (a :: cs) (v :: vs)
theorem Sc.rep {E : Env} {a : AV} {v : Value} (h : Sc a v) : Rep E a v [] := by
  cases h with
  | bool b => exact .bool b
  | int k n => exact .int k n
  | str s h => exact .str s h
theorem ScL.rep {E : Env} : ∀ {cs : List AV} {vs : List Value}, ScL cs vs → RepL E cs vs []
  | _, _, .nil => .nil
  | _, _, .cons h t => .cons (l := []) (m := []) h.rep t.rep
def scA : AV → Bool
  | .bool _ | .int _ _ | .str _ => true
  | _ => false
theorem Rep.sc {E : Env} {a : AV} {v : Value} {l : List Nat} (h : Rep E a v l) (hs : scA a = true) : Sc a v ∧ l = [] := by
  cases h <;> first | exact ⟨.bool _, rfl⟩ | exact ⟨.int _ _, rfl⟩ | exact ⟨.str _ ‹_›, rfl⟩ | cases hs
theorem RepL.sc {E : Env} : ∀ {cs : List AV} {vs : List Value} {l : List Nat}, RepL E cs vs l → cs.all scA = true → ScL cs vs ∧ l = []
  | _, _, _, .nil, _ => ⟨.nil, rfl⟩
  | _, _, _, .cons h t, hs => by
    rw [List.all_cons, Bool.and_eq_true] at hs
    obtain ⟨h1, rfl⟩ := h.sc hs.1
    obtain ⟨h2, rfl⟩ := t.sc hs.2
    exact ⟨.cons h1 h2, rfl⟩
/-- A function of scalars that leaves what was there as it was, with a result that owns nothing. -/
theorem spec_quiet {f : FuncId} {targs : List AV} {res : AV} (he : Enter P f) (hs : targs.all scA = true)
    (h : ∀ (w : World) (st : Bool → Nat → Prop) (vs : Array Value), ScL targs vs.toList → (∀ fl b, st fl b → b < w.heap.size) → Gk P (bare w.heap st) → Calls P f vs w fun e w' => ∃ v, e = .returned v ∧ Quiet w w' ∧ ∀ E, Rep E res v []) : Spec P f targs res targs := by
  refine ⟨he, fun w st vs L hr ho hG => ?_⟩
  obtain ⟨hsc, rfl⟩ := hr.sc hs
  refine (h w st vs hsc ho.stlt hG).mono fun e w' ⟨v, hv, hq, hrep⟩ => ?_
  exact ⟨v, st, [], hv, .cons (l := []) (m := []) (hrep _) hsc.rep, ⟨List.nodup_nil, by simp, by simp, fun fl b hb => Nat.lt_of_lt_of_le (ho.stlt fl b hb) hq.size, ho.sub⟩, hq.size, fun b hb _ => hq.old b hb, fun _ _ h => h, fun _ h => .inl h, fun _ _ h => .inl h, by simp, hq.os, hq.tape, hq.output⟩
theorem Gk.quiet {w w' : World} {st : Bool → Nat → Prop} (hG : Gk P (bare w.heap st)) (hst : ∀ fl b, st fl b → b < w.heap.size) (h : Quiet w w') : Gk P (bare w'.heap st) := hG.of (fun _ h => h) fun b hb => h.old b (hst _ _ hb)
theorem Quiet.bytes {w : World} {t : TypeId} {s : ByteArray} : Quiet w (Lib.bytesWorld w t s) := .below (Lib.bytesWorld_below w t s)
theorem tab_of {w : World} {st : Bool → Nat → Prop} (hG : Gk P (bare w.heap st)) {nm : String} {g : Nat} (hn : P.globalNamed nm = some g) (hg : gtb P g = true) : Lib.TabIs P w nm .u64 Lib.pow10Tab := by
  obtain ⟨_, cs, ty, fr, h1, h2⟩ := hG.tab g hg
  unfold Lib.TabIs World.var?
  rw [hn]
  show (match w.heap[g]? with | some (.cells cs _ _) => some cs | _ => none) = _
  have h1' : w.heap[g]? = some (.cells cs ty fr) := h1
  rw [h1']
  show some cs = _
  congr 1
  apply Array.toList_inj.1
  rw [h2]
  simp [tens, Lib.pow10Tab]
theorem max_of {w : World} {st : Bool → Nat → Prop} (hG : Gk P (bare w.heap st)) {g : Nat} (hg : gmx P g = true) : ∃ m, w.cell? ⟨g, 0, none⟩ = some (.int .i64 m) := by
  obtain ⟨_, m, h⟩ := hG.max g hg
  exact ⟨m, cellAt_is.trans h⟩
theorem var_of {w : World} {st : Bool → Nat → Prop} (hG : Gk P (bare w.heap st)) {g : Nat} (hg : gok P g = true) : ∃ c, w.cell? ⟨g, 0, none⟩ = some c ∧ (c = .nilIface ∨ ∃ t p, c = .iface t p) := by
  obtain ⟨_, m, h, h2⟩ := hG.var g hg
  exact ⟨m, cellAt_is.trans h, h2⟩
theorem ScL.inv {a : AV} {cs : List AV} {vs : List Value} (h : ScL (a :: cs) vs) : ∃ v us, vs = v :: us ∧ Sc a v ∧ ScL cs us := by
  cases h with | cons h t => exact ⟨_, _, rfl, h, t⟩
theorem ScL.inv0 {vs : List Value} (h : ScL [] vs) : vs = [] := by cases h; rfl
/-- strings.Contains. -/
theorem contains_lift {ρ : Go.Shelf.Ren} (L : Go.Proofs.Lays.n144 P ρ) (he : Enter P (ρ.f 144)) (hg : gmx P (ρ.g 1) = true) (s t : List UInt8) (hs : s.length < 4294967281) : Spec P (ρ.f 144) [.str (ofL s), .str (ofL t)] (.bool (Lib.contains s t)) [.str (ofL s), .str (ofL t)] := by
  refine spec_quiet he rfl fun w st vs hv hst hG => ?_
  obtain ⟨v1, u1, e1, h1, t1⟩ := hv.inv
  obtain ⟨v2, u2, e2, h2, t2⟩ := t1.inv
  obtain rfl := t2.inv0
  subst e2
  cases h1; cases h2
  obtain rfl : vs = #[_, _] := Array.toList_inj.1 e1
  obtain ⟨m, hm⟩ := max_of hG hg
  refine (Go.Proofs.Any.strings_Contains L (ofL s) (ofL t) m w hs hm).mono fun e w' ⟨h1, h2⟩ => ?_
  subst h2
  exact ⟨_, h1, .refl _, fun E => .bool _⟩
/-- strconv.FormatInt at base 10. -/
theorem itoa_lift {f : FuncId} (he : Enter P f) (n : Int) (h0 : -9223372036854775808 ≤ n) (h1 : n ≤ 9223372036854775807)
    (hc : ∀ (w : World) (st : Bool → Nat → Prop), Gk P (bare w.heap st) → Calls P f #[.int .i64 n, .int .i64 10] w fun e w' => e = .returned (.string ⟨(Lib.itoa n).toArray⟩) ∧ ∃ k os, w' = Sort.grow (w.drewN k) os) :
    Spec P f [.int .i64 n, .int .i64 10] (.str (ofL (Lib.itoa n))) [.int .i64 n, .int .i64 10] := by
  refine spec_quiet he rfl fun w st vs hv hst hG => ?_
  obtain ⟨v1, u1, e1, h1', t1⟩ := hv.inv
  obtain ⟨v2, u2, e2, h2', t2⟩ := t1.inv
  obtain rfl := t2.inv0
  subst e2
  cases h1'; cases h2'
  obtain rfl : vs = #[_, _] := Array.toList_inj.1 e1
  refine (hc w st hG).mono fun e w' ⟨h1', k, os, h2⟩ => ?_
  subst h2
  refine ⟨_, h1', .grow, fun E => .str _ ?_⟩
  have := Lib.itoa_length_le n h0 h1
  show (Lib.itoa n).toArray.size ≤ MX
  simp; unfold MX; omega
theorem splitB_sizes (sep : ByteArray) : ∀ (k : Nat) (s : ByteArray), ∀ p ∈ Lib.splitB sep 0 k s, p.size ≤ s.size
  | 0, s, p, hp => by simp [Lib.splitB] at hp; rw [hp]; exact Nat.le_refl _
  | k + 1, s, p, hp => by
    unfold Lib.splitB at hp
    split at hp
    · simp at hp; rw [hp]; exact Nat.le_refl _
    · simp only [List.mem_cons] at hp
      rcases hp with rfl | hp
      · rw [ByteArray.size_extract]; omega
      · have := splitB_sizes sep k _ p hp
        rw [ByteArray.size_extract] at this; omega
theorem strs_rep {E : Env} : ∀ (ps : List ByteArray), (∀ p ∈ ps, p.size ≤ MX) → RepL E (flat ((ps.map (·.data.toList)).map fun x => AV.str (ofL x))) (ps.map Value.string) []
  | [], _ => .nil
  | p :: ps, h => .cons (l := []) (m := []) (.str (ofL p.data.toList) (h p (by simp))) (strs_rep ps fun q hq => h q (by simp [hq]))
/-- strings.Split at a separator that is not empty. -/
theorem split_lift {ρ : Go.Shelf.Ren} (L : Go.Proofs.Lays.n146 P ρ) (he : Enter P (ρ.f 146)) (hi9 : (P.info? (ρ.t 9)).map (fun i => (i.zero, i.size, i.bytes)) = some (some (.string ByteArray.empty), 1, 16)) (hg : gmx P (ρ.g 1) = true) (s t : List UInt8) (hs : s.length < 4294967281) (h1 : 1 ≤ t.length) :
    Spec P (ρ.f 146) [.str (ofL s), .str (ofL t)] (.olst 1 (((Lib.splitB (ofL t) 0 (Lib.countB (ofL s) (ofL t)) (ofL s)).map (·.data.toList)).map fun x => .str (ofL x))) [.str (ofL s), .str (ofL t)] := by
  refine ⟨he, fun w st vs L0 hr ho hG => ?_⟩
  obtain ⟨hsc, rfl⟩ := hr.sc rfl
  have hsc' := hsc
  obtain ⟨v1, u1, e1, h1', t1⟩ := hsc.inv
  obtain ⟨v2, u2, e2, h2', t2⟩ := t1.inv
  obtain rfl := t2.inv0
  subst e2
  cases h1'; cases h2'
  obtain rfl : vs = #[_, _] := Array.toList_inj.1 e1
  obtain ⟨m, hm⟩ := max_of hG hg
  refine (Go.Proofs.Any.strings_Split L hi9 (ofL s) (ofL t) m w hs hm h1).mono fun e w' ⟨h1, h2⟩ => ?_
  subst h2
  obtain ⟨ps, hps⟩ : ∃ ps, ps = Lib.splitB (ofL t) 0 (Lib.countB (ofL s) (ofL t)) (ofL s) := ⟨_, rfl⟩
  have hlen : ps.length = Lib.countB (ofL s) (ofL t) + 1 := by rw [hps]; exact Lib.splitB_all _ ‹_› 0 _ _ rfl
  have hsz : ∀ p ∈ ps, p.size ≤ MX := fun p hp => by
    have h3 := splitB_sizes _ _ _ p (hps ▸ hp)
    have h4 : (ofL s).size = s.length := rfl
    unfold MX; omega
  have hcl := Lib.countB_le (ofL t) ‹_› _ (ofL s) (Nat.le_refl _)
  have h4 : (ofL s).size = s.length := rfl
  rw [← hps]
  rw [← hps] at *
  have hnew : (w.alloc (.cells (ps.map Value.string).toArray (ρ.t 9))).heap[w.heap.size]? = some (.cells (ps.map Value.string).toArray (ρ.t 9) (0, 0)) := by
    show (w.heap.push _)[w.heap.size]? = _
    simp
  refine ⟨_, st, [w.heap.size], h1, .cons (l := [w.heap.size]) (m := []) ?_ hsc'.rep, ⟨by simp, fun b hb => ?_, fun b hb hs => ?_, fun fl b hb => ?_, ho.sub⟩, ?_, fun b hb _ => ?_, fun _ _ h => h, fun _ h => .inl h, fun _ _ h => .inl h, fun b hb => ?_, rfl, rfl, rfl⟩
  · have key := Rep.olst (E := bare (w.alloc (.cells (ps.map Value.string).toArray (ρ.t 9))).heap st) (sz := 1) (els := (ps.map (·.data.toList)).map fun x => AV.str (ofL x)) (b := w.heap.size) (cap := ps.length) (l := []) hnew (fun k _ h => by omega) (by simp) (by simp) (by simp; unfold MX; omega) (by simp [okE, cellsOf, allC1, C1])
      (by have := strs_rep (E := bare (w.alloc (.cells (ps.map Value.string).toArray (ρ.t 9))).heap st) ps hsz
          simpa [List.take_of_length_le] using this)
    simp only [List.length_map, hlen] at key
    exact key
  · rw [List.mem_singleton.1 hb]
    show _ < (w.heap.push _).size
    simp
  · rw [List.mem_singleton.1 hb] at hs
    exact absurd (ho.stlt _ _ hs) (Nat.lt_irrefl _)
  · show _ < (w.heap.push _).size
    have := ho.stlt fl b hb
    have h5 : (bare w.heap st).h = w.heap := rfl
    simp; rw [h5] at this; omega
  · show w.heap.size ≤ (w.heap.push _).size
    simp
  · show (w.heap.push _)[b]? = _
    rw [Array.getElem?_push]
    rw [if_neg (by omega)]
  · exact .inr (by rw [List.mem_singleton.1 hb]; exact Nat.le_refl _)
end Go.Ev

/-
What a row tells of the package variables: a variable that holds an error, a table of numbers, some number.
-/
set_option linter.unusedVariables false
namespace Go.Ev
open Go.ChangeShapes Go.ChangeMaps Go.WideShapes Go.ChangeAt Go.RowKit
variable {P : Program} {W : World}
theorem iface_reads {n nm : String} {d : DataW Unit} {g t : Nat} (h : Lib.VarReads P W n (.iface nm d)) (hg : P.globalNamed n = some g) (ht : (P.globals[g]?).map (·.type) = some t) (hu : Eb.isIfc P t = true) :
    ∃ c, W.cell? ⟨g, 0, none⟩ = some c ∧ (c = .nilIface ∨ ∃ t p, c = .iface t p) := by
  obtain ⟨ms, hu⟩ : ∃ ms, P.underlying t = some (.interface ms) := by
    unfold Eb.isIfc at hu
    split at hu
    · rename_i ms h2; exact ⟨ms, h2⟩
    · cases hu
  obtain ⟨g', t', cs, fuel, p, h1, h2, h3, h4⟩ := h
  obtain rfl : g = g' := by rw [hg] at h1; injection h1
  obtain rfl : t = t' := by rw [ht] at h2; injection h2
  obtain ⟨_, u, v, hcs, _⟩ := iface_of_trod hu h4
  refine ⟨.iface u v, ?_, .inr ⟨u, v, rfl⟩⟩
  rw [World.var?_cell hg h3 0, ← Array.getElem?_toList, hcs]
  rfl
theorem tab_reads {n : String} {zs : List Int} {g t e m : Nat} {k : IntKind} (h : Lib.VarReads P W n (Lib.tabData k zs)) (hg : P.globalNamed n = some g) (hty : (P.globals[g]?).map (·.type) = some t) (ht : P.underlying t = some (.array m e)) (he : P.underlying e = some (.int k))
    (hce : P.cellsOf e = 1) (hct : P.cellsOf t = m) : ∃ cs ty fr, W.heap[g]? = some (.cells cs ty fr) ∧ cs.toList = zs.map (Value.int k) := by
  obtain ⟨g', t', cs, fuel, p, h1, h2, h3, h4⟩ := h
  obtain rfl : g = g' := by rw [hg] at h1; injection h1
  obtain rfl : t = t' := by rw [hty] at h2; injection h2
  have := Lib.cells_of_tab ht he hce hct h4
  unfold World.var? at h3
  rw [hg] at h3
  have h3 : (match W.heap[g]? with | some (.cells cs _ _) => some cs | _ => none) = some cs := h3
  split at h3
  · rename_i cs' ty fr hh
    injection h3 with h3
    subst h3
    exact ⟨_, ty, fr, hh, this⟩
  · cases h3
theorem tens_is : Lib.pow10Tab.map (Value.int .u64) = tens := by simp [Lib.pow10Tab, tens]
end Go.Ev
