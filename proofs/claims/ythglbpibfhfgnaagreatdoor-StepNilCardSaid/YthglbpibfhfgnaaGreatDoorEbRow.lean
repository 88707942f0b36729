/-
From a call that comes to 'true', and leaves what was there, to a law's row.
-/
import Derived.WalkKit
import Derived.ProofKit
import Derived.ChangeStays
import Derived.ReadAgain
import Derived.Handed
import Derived.ChangeCalls
import Derived.OpenShut
import Derived.JoinedCond
set_option linter.unusedVariables false
namespace Go.Row
open Go.ChangeShapes Go.WideShapes Go.ChangeAt Go.RowKit

/-- 'true', and all that was there is as it was. -/
def Good (W : World) (e : Ending) (W' : World) : Prop := e = .returned (.bool true) ∧ W.heap.size ≤ W'.heap.size ∧ (∀ b, b < W.heap.size → W'.heap[b]? = W.heap[b]?) ∧ W'.os = W.os ∧ W'.output = W.output

section
variable {H : Type} {enc : TypeId × Value → H} {P : Program} {W W' : World}

theorem kept_of (h1 : ∀ b, b < W.heap.size → W'.heap[b]? = W.heap[b]?) (h2 : W'.os = W.os) (h3 : W'.output = W.output) (may : MemPlace → Prop) : W.keptBut W' may := by
  refine ⟨h2, h3, fun i hi => ?_⟩
  rw [h1 i hi]
  split
  · rename_i c t fr c' t' fr' e1 e2
    rw [e1] at e2; injection e2 with e2; injection e2 with a b c
    subst a b c
    exact ⟨rfl, rfl, rfl, fun _ _ => rfl⟩
  · rename_i e1 e2
    rw [e1] at e2; injection e2 with e2; injection e2 with a b
    subst a b
    exact .inr ⟨rfl, rfl⟩
  · rename_i e1 e2
    first | rfl | (rw [e1] at e2; exact e2.symm)
theorem same_of (h1 : ∀ b, b < W.heap.size → W'.heap[b]? = W.heap[b]?) {p : MemPlace} (hp : p.block < W.heap.size) : W.sameAt W' p := by
  cases p with
  | cell b off =>
    show W'.cell? _ = W.cell? _
    unfold World.cell?
    rw [h1 b hp]
  | map b => exact h1 b hp

theorem trodAll_stays {T : TypeId → Prop} (K : Kids P T) (hz : ∀ {t e : TypeId}, T t → P.underlying t = some (.slice e) → 0 < P.cellsOf e) (h1 : ∀ b, b < W.heap.size → W'.heap[b]? = W.heap[b]?) {sp : Nat → Bool} :
    ∀ {ts : List TypeId} {vs : List Value} {ds : List (DataW H)} {ps : List MemPlace}, (∀ t ∈ ts, T t) → DataW.TrodAll enc P W 0 (fun _ => true) true ts vs ds ps → (∀ p ∈ ps, sp p.block = true) → DataW.TrodAll enc P W' 0 sp true ts vs ds ps
  | [], [], [], _, _, h, _ => h
  | _ :: _, _ :: _, _ :: _, _, hT, ⟨p, q, ⟨n, hn⟩, h2, e⟩, hs => by
    subst e
    refine ⟨p, q, ⟨n, DataW.trod_stays K hz (fun h => by cases h) (hT _ (by simp)) hn (fun x hx => same_of h1 (DataW.trod_lt n _ _ _ hn x hx)) fun x hx => hs x (List.mem_append_left _ hx)⟩, trodAll_stays K hz h1 (fun t ht => hT t (by simp [ht])) h2 (fun x hx => hs x (List.mem_append_right _ hx)), rfl⟩

/-- A law's post. -/
theorem law_post {f : Func} {s : ChangeSpec} {apart fresh handsOn again : Bool} {args : Array Value} {ds gs : List (DataW H)} {before : List MemPlace} {tb : TypeId} {e : Ending}
    (hl : laidOutB P = true) (hm : mapsRowed P = true) (hz : ∀ t e, t < P.types.size → P.underlying t = some (.slice e) → 0 < P.cellsOf e)
    (hT : ∀ t ∈ f.params.toList, t < P.types.size) (hvars : s.vars = []) (hres : f.resultTypes = #[tb]) (hb : P.underlying tb = some .bool)
    (hfn : ∀ ds : List (DataW H), ds.length = f.params.toList.length → s.fn H ds = { results := [.lit (.bool true)], args := ds })
    (hW : DataW.Whole enc P f.params.toList s.vars apart W args.toList ds gs before) (hg : Good W e W') :
    ∃ v, e = .returned v ∧ s.post enc P f apart fresh handsOn again W args v W' := by
  obtain ⟨rfl, hsz, hold, hos, hout⟩ := hg
  refine ⟨_, rfl, ?_⟩
  have hW0 := hW
  obtain ⟨pa, pv, hA, hV, rfl, hfz, hn⟩ := hW
  have hgs : gs = [] ∧ pv = [] := by rw [hvars] at hV; exact trodVars_none hV
  obtain ⟨rfl, rfl⟩ := hgs
  have hlen := (trodAll_length hA).2
  have hf := hfn (ds ++ []) (by simpa using hlen)
  have hK := kids_rows hl hm
  have hz' : ∀ {t e : TypeId}, t < P.types.size → P.underlying t = some (.slice e) → 0 < P.cellsOf e := fun {t e} => hz t e
  have hlt : ∀ p ∈ pa, p.block < W.heap.size := hA.lt
  have hrl : (Value.bool true).resultList f.resultTypes.size = [.bool true] := by rw [hres]; rfl
  have hr : ∀ (b : Nat) (sp : Nat → Bool) (hd : Bool), DataW.TrodAll enc P W' b sp hd f.resultTypes.toList ((Value.bool true).resultList f.resultTypes.size) (s.fn H (ds ++ [])).results [] := fun b sp hd => by
    rw [hrl, hf, hres]
    exact trodAll_cons_mk (shut_bool hb _) trodAll_mk0
  have ha : ∀ sp : Nat → Bool, (∀ p ∈ pa, sp p.block = true) → DataW.TrodAll enc P W' 0 sp true f.params.toList args.toList (s.fn H (ds ++ [])).args pa := fun sp hsp => by
    rw [hf]
    simpa using trodAll_stays hK hz' hold hT hA hsp
  have hv : ∀ sp : Nat → Bool, DataW.TrodVars enc P W' sp s.vars (s.fn H (ds ++ [])).vars [] := fun sp => by
    rw [hf, hvars]; rfl
  refine ⟨ds, [], pa ++ [], [], pa, [], hW0, hr _ _ _, ha _ (fun p hp => by simpa using hlt p hp), hv _, kept_of hold hos hout _, fun _ => ⟨fun j t r hj hr' => ?_, _, _, ([] ++ pa) ++ [], ⟨[] ++ pa, [], trodAll_append (ha _ (fun _ _ => rfl)) (hr _ _ _), hv _, rfl, fun b off hp => ?_, fun ha' => ?_⟩, fun p hp _ => ?_⟩⟩
  · rw [hres] at hj
    rw [hrl] at hr'
    cases j with
    | zero =>
      simp at hj hr'
      subst hj hr'
      exact okWide_bool_mk hb _
    | succ j => simp at hj
  · have hp' : MemPlace.cell b off ∈ pa := by simpa using hp
    have hblk : b < W.heap.size := hlt _ hp'
    have : W'.frozen? ⟨b, off, none⟩ = W.frozen? ⟨b, off, none⟩ := by unfold World.frozen?; rw [hold b hblk]
    first
      | (rw [this]; exact hfz b off (by simpa using hp'))
      | exact this ▸ hfz b off (by simpa using hp')
  · have := hn ha'
    simpa using this
  · simpa using hp
end
end Go.Row
