import Derived.Test.YtjmbfcodmmnbiaaDoorRows
import Derived.Shelf.Pu.Clone
import Derived.Deep.DeepHandedRow
import Derived.Deep.DeepWitnessRowRef
import Derived.Lib.LaidIn
import Derived.Lib.LaidU8
import Derived.LaidLaws
import Derived.ChangeMaps5
import Derived.SizedLaws
import Derived.Test.YtjmbfcodmmnbiaaDoorT6
set_option linter.unusedVariables false
set_option linter.unusedSimpArgs false
/-
What holds of the program of layer 22: its example comes to true; the list of words; a copy of a text; the package variables that are read.
-/
namespace Go.Proofs.YtjmbfcodmmnbiaaDoor
open Go.ChangeShapes Go.WideShapes Go.ChangeAt Go.RowKit Go.Eb Go.ChangeMaps
set_option linter.unusedVariables false
set_option maxRecDepth 100000

theorem own : ownKnob Tryd.prog.godebug = none := by kernel_rfl
theorem laidOut : laidOutB Tryd.prog = true := by kernel_rfl
theorem rowed : mapsRowed Tryd.prog = true := by kernel_rfl
theorem full : ((List.range Tryd.prog.types.size).all fun t => match Tryd.prog.underlying t with | some (.slice e) => decide (0 < Tryd.prog.cellsOf e) | _ => true) = true := by kernel_rfl

/-! ### A copy of a text -/
def renC : Go.Shelf.Ren := ⟨fun i => if i = 25 then 93 else i, fun t => if t = 37 then 75 else if t = 47 then 100 else t, fun g => g⟩
theorem laysC : LaysPu.n25 Tryd.prog renC where
  mixed := by kernel_rfl
  f25 := by kernel_rfl
  t0 := by kernel_rfl
  a0 := fun w => by kernel_rfl
  z0 := fun w => by kernel_rfl
  v0 := fun w => by kernel_rfl
  i0 := by kernel_rfl
  t3 := by kernel_rfl
  a3 := fun w => by kernel_rfl
  z3 := fun w => by kernel_rfl
  v3 := fun w => by kernel_rfl
  i3 := by kernel_rfl
  t4 := by kernel_rfl
  a4 := fun w => by kernel_rfl
  z4 := fun w => by kernel_rfl
  v4 := fun w => by kernel_rfl
  i4 := by kernel_rfl
  t5 := by kernel_rfl
  a5 := fun w => by kernel_rfl
  z5 := fun w => by kernel_rfl
  v5 := fun w => by kernel_rfl
  i5 := by kernel_rfl
  t9 := by kernel_rfl
  a9 := fun w => by kernel_rfl
  z9 := fun w => by kernel_rfl
  v9 := fun w => by kernel_rfl
  i9 := by kernel_rfl
  t37 := by kernel_rfl
  a37 := fun w => by kernel_rfl
  z37 := fun w => by kernel_rfl
  v37 := fun w => by kernel_rfl
  i37 := by kernel_rfl
  t47 := by kernel_rfl
  a47 := fun w => by kernel_rfl
  z47 := fun w => by kernel_rfl
  v47 := fun w => by kernel_rfl
  i47 := by kernel_rfl
theorem clone : KnOk Tryd.prog 93 .idstr := fun w s hs _ => (AnyPu.stringslite_Clone laysC s w (Nat.le_trans hs (by decide))).mono fun e w' ⟨he, hb⟩ => ⟨⟨hb.size, hb.block, hb.tape, hb.os, hb.output⟩, he⟩

/-! ### What is known -/
def wordsL : List (List Nat) := [[], [], [110, 111, 110, 101], [107, 101, 121], [118, 97, 108, 117, 101], [116, 105, 109, 101], [110, 111, 119], [111, 108, 100], [115, 105, 100, 101], [97, 100, 100], [115, 117, 98], [109, 117, 108], [100, 105, 118], [109, 111, 100], [109, 105, 110], [109, 97, 120], [110, 101, 103], [101, 113], [108, 116], [97, 110, 100], [111, 114], [110, 111, 116], [99, 97, 116], [108, 101, 110], [112, 97, 114, 116], [104, 97, 115], [110, 117, 109], [116, 101, 120, 116], [102, 105, 101, 108, 100], [101, 108, 115, 101], [105, 115], [112, 105, 99, 107], [100, 117, 112], [115, 119, 97, 112], [100, 114, 111, 112], [106, 117, 109, 112], [119, 104, 101, 110]]
noncomputable def wordsT : T V := strsT wordsL
theorem known1 : Known Tryd.prog [(93, .idstr)] := known_more known_nil (by kernel_rfl) clone
theorem words : runB Tryd.prog [(93, .idstr)] 100 25 [] .e 0 (isRes 0 1 37 37 true wordsT) = some () := by kernel_rfl
theorem known2 : Known Tryd.prog [(25, .res (.sl 0 0 1 37 none) (.cells 37 true wordsT)), (93, .idstr)] := known_res known1 (by kernel_rfl) words
theorem awake : runB Tryd.prog [(25, .res (.sl 0 0 1 37 none) (.cells 37 true wordsT)), (93, .idstr)] 100 10 [] .e 0 isTrue = some () := by kernel_rfl
noncomputable def kn : List (Nat × KS) := [(10, .tru), (25, .res (.sl 0 0 1 37 none) (.cells 37 true wordsT)), (93, .idstr)]
theorem known : Known Tryd.prog kn := known_tru known2 (by kernel_rfl) awake

/-! ### The package variables -/
theorem glob23 (k : Nat) (h : globOk Tryd.prog k = true) : k = 2 ∨ k = 3 := by
  rcases Nat.lt_or_ge k 8 with hk | hk
  · have h1 : ((List.range 8).all fun k => !globOk Tryd.prog k || Nat.beq k 2 || Nat.beq k 3) = true := by kernel_rfl
    have := List.all_eq_true.1 h1 k (List.mem_range.2 hk)
    rw [h] at this
    simpa [Nat.beq_eq] using this
  · have hs : Tryd.prog.globals.size = 8 := by kernel_rfl
    unfold globOk at h
    rw [Array.getElem?_eq_none (by rw [hs]; exact hk)] at h
    cases h
theorem glob_of {W : World} {n nm : String} {d : DataW Unit} {g t : Nat} (h : Lib.VarReads Tryd.prog W n (.iface nm d)) (hg : Tryd.prog.globalNamed n = some g) (ht : (Tryd.prog.globals[g]?).map (·.type) = some t) (hu : isIfc Tryd.prog t = true) :
    ∃ c, W.cell? ⟨g, 0, none⟩ = some c ∧ c.oneCell' = true := by
  obtain ⟨ms, hu⟩ : ∃ ms, Tryd.prog.underlying t = some (.interface ms) := by
    unfold isIfc at hu
    split at hu
    · rename_i ms h2; exact ⟨ms, h2⟩
    · cases hu
  obtain ⟨g', t', cs, fuel, p, h1, h2, h3, h4⟩ := h
  obtain rfl : g = g' := by rw [hg] at h1; injection h1
  obtain rfl : t = t' := by rw [ht] at h2; injection h2
  obtain ⟨_, u, v, hcs, _⟩ := iface_of_trod hu h4
  refine ⟨.iface u v, ?_, rfl⟩
  rw [World.var?_cell hg h3 0, ← Array.getElem?_toList, hcs]
  rfl

/-! ### A world for the witness -/
def flatD : DataW Unit → List Value
  | .lit (.int k n) => [.int k n]
  | .agg ds => flatL ds
  | _ => []
where flatL : List (DataW Unit) → List Value
  | [] => []
  | d :: r => flatD d ++ flatL r
def textV (d : DataW Unit) : Value := match d with
  | .iface _ (.ptr (.agg [.lit (.string l)])) => .string ⟨l.toArray⟩
  | _ => .nilIface
noncomputable def laidWorld (os : Os) : World :=
  let N := (World.settled Tryd.prog os).heap.size
  let w0 := World.holding Tryd.prog os ⟨#[.cells #[textV Rows.laid_strconv_ErrSyntax] 148, .cells #[textV Rows.laid_strconv_ErrRange] 148], #[], []⟩
  let put (h : Array Obj) (g : Nat) (cs : Array Value) : Array Obj := h.modify g fun
    | .cells _ t frozen => .cells cs t frozen
    | o => o
  let h1 := put w0.heap 1 (flatD Rows.laid_internal_strconv_uint64pow10).toArray
  let h2 := put h1 2 #[.iface 146 (.pointer (some ⟨N, 0, none⟩))]
  let h3 := put h2 3 #[.iface 146 (.pointer (some ⟨N + 1, 0, none⟩))]
  let h4 := put h3 4 (flatD Rows.laid_unicode_utf8_first).toArray
  let h5 := put h4 5 (flatD Rows.laid_unicode_utf8_acceptRanges).toArray
  let h6 := put h5 6 (flatD Rows.laid_math_bits_deBruijn32tab).toArray
  let h7 := put h6 7 (flatD Rows.laid_math_bits_deBruijn64tab).toArray
  { w0 with heap := h7 }
theorem laid_met (os : Os) (args : Array Value) : laidMet Tryd.prog Rows.exprWordsRow.laid ((laidWorld os).forCall (fun _ _ => 0) ⟨#[], args, []⟩).memory :=
  laidMet_of_run' 8 (by kernel_rfl) (by kernel_rfl)
end Go.Proofs.YtjmbfcodmmnbiaaDoor

set_option linter.unusedVariables false
set_option linter.unusedSimpArgs false
namespace Go.Ev
set_option maxRecDepth 100000
set_option maxHeartbeats 0
open Go.Proofs
theorem awake19_spec : Spec Tryd.prog 10 [] (.bool true) [] := spec_closed (by kernel_rfl) Go.Proofs.YtjmbfcodmmnbiaaDoor.known2 Go.Proofs.YtjmbfcodmmnbiaaDoor.awake
theorem enough_spec (p : List OpA) (i : InA) (more less : Int) (hp : ∀ o ∈ p, inR o.n) (hv : inR i.value.n) (ho : inR i.old.n) (hs : inR i.side.n) (ht : inR i.time) (hnow : inR i.now) :
    Spec Tryd.prog 3 [.lst false 3 (p.map encP), .agg (inC i), .int .i64 more, .int .i64 less] (.bool true) [.lst false 3 (p.map encP), .agg (inC i), .int .i64 more, .int .i64 less] := by
  have hcut := cut_f false p
  have hsmall := small_f i
  have hpc : ∀ o ∈ cutL p, inR o.n := fun o ho => by
    obtain ⟨q, hq, rfl⟩ := List.mem_map.1 ho
    exact hp q (List.mem_of_mem_take hq)
  have hlen : (cutL p).length ≤ 70 := by unfold cutL; simp; omega
  have hrun := fun k => run_f false (cutL p) (inCut i) k hpc hv ho hs ht hnow
  generalize cutL p = P at *
  generalize inCut i = I at *
  have hck := rcheck_f false P
  have hm1 := rmay_f I.value
  have hm2 := rmay_f I.old
  have hm3 := rmay_f I.side
  have hours := ours_f false P (by omega)
  have hgiven := given_f I
  have haw := awake19_spec
  have alt : mayRun P I ∨ ¬ checkL P = 0 ∨ mayL I.value = false ∨ mayL I.old = false ∨ mayL I.side = false ∨ 1024 < (I.key.length : Int) := by
    by_cases c1 : checkL P = 0
    · cases c2 : mayL I.value with
      | false => exact .inr (.inr (.inl rfl))
      | true => cases c3 : mayL I.old with
        | false => exact .inr (.inr (.inr (.inl rfl)))
        | true => cases c4 : mayL I.side with
          | false => exact .inr (.inr (.inr (.inr (.inl rfl))))
          | true =>
            by_cases c5 : 1024 < (I.key.length : Int)
            · exact .inr (.inr (.inr (.inr (.inr c5))))
            · exact .inl ⟨c1, by omega, c2, c3, c4⟩
    · exact .inr (.inl c1)
  clear hpc hlen hp hv ho hs ht hnow
  rcases alt with hok | c
  · obtain ⟨⟨A, n, e⟩, hR⟩ : ∃ R, runL P I 300 = R := ⟨_, rfl⟩
    have hb := runL_bounds hok (k := 300) (by omega) (by omega)
    have h41 := runL_steps hok (k := 300) (by omega) (by omega)
    rw [hR] at hb h41
    dsimp only at hb h41
    have hrun3 := hrun 300
    rw [hR] at hrun3
    dsimp only at hrun3
    have hM : ∀ k, 300 ≤ k → k ≤ 4096 → e ≠ 41 → Spec Tryd.prog 11 [.lst false 3 (P.map encP), .agg (inC I), .int .i64 k] (.tup [.agg [.int .i64 A.kind, .int .i64 A.n, .str (ofL A.s)], .int .i64 n, .int .i64 e]) [.lst false 3 (P.map encP), .agg (inC I), .int .i64 k] := fun k h1 h2 h3 => by
      have := hrun k
      rw [runL_more hok (k := 300) (m := k) (by omega) h1 h2 (by rw [hR]; exact h3), hR] at this
      exact this
    obtain ⟨t, hT⟩ : ∃ t, more.tmod 3000 = t := ⟨_, rfl⟩
    have htb := tmod_b more 2999
    rw [show ((2999 : Nat) : Int) + 1 = 3000 by rfl, hT] at htb
    obtain ⟨u, hU⟩ : ∃ u, less.tmod (n + 1) = u := ⟨_, rfl⟩
    have hub := tmod_b less n.toNat
    rw [show ((n.toNat : Nat) : Int) + 1 = n + 1 by omega, hU] at hub
    have hL : ∀ j, 0 ≤ j → j < n → runL P I j = (vNone, j, 41) := fun j h1 h2 => runL_less hok (k := 300) (by omega) (by omega) h1 (by rw [hR]; exact h2)
    obtain ⟨g1, g2, g3, g4, g5⟩ := hok
    clear hR
    refine spec_go Tryd.f3 ?_; simp (maxSteps := 1000000) (disch := omega) only [push_cast, go_sem, simprocAttr, Tryd.f3, *]
    repeat' (first
    | with_reducible refine And.intro ?_ ?_
    | ((first | (with_reducible intro hx; (try simp only [false_dec, true_dec, Int.ofNat_inj, gt_iff_lt, ge_iff_le, decide_eq_true_eq, decide_eq_false_iff_not, Bool.not_eq_true', Bool.not_eq_false', Bool.and_eq_true, Bool.or_eq_false_iff, ne_eq, Classical.not_not] at hx); (first | (exfalso; omega) | skip)) | with_reducible refine branch_t ?_ | with_reducible refine branch_f ?_) <;> (try simp (maxSteps := 1000000) (disch := omega) only [push_cast, go_sem, simprocAttr, *]))
    | with_reducible refine cond_split ?_ ?_
    | with_reducible refine guard_split ?_ ?_
    | with_reducible refine still_split ?_ ?_
    | ((with_reducible refine drw_own ?_); simp (maxSteps := 1000000) (disch := omega) only [push_cast, go_sem, simprocAttr, *]; (with_reducible refine drw_id ?_))
    | ((first | with_reducible refine drw_plan3 pl3_0 ?_ | with_reducible refine drw_plan3 pl3_1 ?_ | with_reducible refine drw_plan3 pl3_2 ?_ | with_reducible refine drw_plan3 pl3_3 ?_); (try simp (maxSteps := 1000000) (disch := omega) only [push_cast, go_sem, simprocAttr, *]); (fail_if_success (with_reducible change False)))
    | ((first | with_reducible refine drw_in ?_ | with_reducible refine call_by3 [] (hcut) ?_ | with_reducible refine call_by3 [] (hsmall) ?_ | with_reducible refine call_by3 [] (hck) ?_ | with_reducible refine call_by3 [] (hm1) ?_ | with_reducible refine call_by3 [] (hm2) ?_ | with_reducible refine call_by3 [] (hm3) ?_ | with_reducible refine call_by3 [] (haw) ?_ | with_reducible refine call_by3 [] (hours) ?_ | with_reducible refine call_by3 [] (hgiven) ?_ | with_reducible refine call_by3 [] (hrun3) ?_ | with_reducible refine call_by3 [] (hM (300 + (0 - t)) (by omega) (by omega) (by omega)) ?_ | with_reducible refine call_by3 [] (hM (300 + t) (by omega) (by omega) (by omega)) ?_ | with_reducible refine call_by3 [] (hrun (0 - u)) ?_ | with_reducible refine call_by3 [] (hrun u) ?_) <;> (try simp (maxSteps := 1000000) (disch := omega) only [push_cast, go_sem, simprocAttr, *]))
    | omega)
    all_goals (simp [vNone] at hx)
  · rcases c with c | c | c | c | c
    all_goals
      refine spec_go Tryd.f3 ?_; simp (maxSteps := 1000000) (disch := omega) only [push_cast, go_sem, simprocAttr, Tryd.f3, *]
      repeat' (first
    | with_reducible refine And.intro ?_ ?_
    | ((first | (with_reducible intro hx; (try simp only [false_dec, true_dec, Int.ofNat_inj, gt_iff_lt, ge_iff_le, decide_eq_true_eq, decide_eq_false_iff_not, Bool.not_eq_true', Bool.not_eq_false', Bool.and_eq_true, Bool.or_eq_false_iff, ne_eq, Classical.not_not] at hx); (first | (exfalso; omega) | skip)) | with_reducible refine branch_t ?_ | with_reducible refine branch_f ?_) <;> (try simp (maxSteps := 1000000) (disch := omega) only [push_cast, go_sem, simprocAttr, *]))
    | with_reducible refine cond_split ?_ ?_
    | with_reducible refine guard_split ?_ ?_
    | with_reducible refine still_split ?_ ?_
    | ((with_reducible refine drw_own ?_); simp (maxSteps := 1000000) (disch := omega) only [push_cast, go_sem, simprocAttr, *]; (with_reducible refine drw_id ?_))
    | ((first | with_reducible refine drw_plan3 pl3_0 ?_ | with_reducible refine drw_plan3 pl3_1 ?_ | with_reducible refine drw_plan3 pl3_2 ?_ | with_reducible refine drw_plan3 pl3_3 ?_); (try simp (maxSteps := 1000000) (disch := omega) only [push_cast, go_sem, simprocAttr, *]); (fail_if_success (with_reducible change False)))
    | ((first | with_reducible refine drw_in ?_ | with_reducible refine call_by3 [] (hcut) ?_ | with_reducible refine call_by3 [] (hsmall) ?_ | with_reducible refine call_by3 [] (hck) ?_ | with_reducible refine call_by3 [] (hm1) ?_ | with_reducible refine call_by3 [] (hm2) ?_ | with_reducible refine call_by3 [] (hm3) ?_ | with_reducible refine call_by3 [] (haw) ?_) <;> (try simp (maxSteps := 1000000) (disch := omega) only [push_cast, go_sem, simprocAttr, *]))
    | omega)
end Go.Ev

set_option linter.unusedVariables false
set_option linter.unusedSimpArgs false
namespace Go.Ev
set_option maxRecDepth 100000
set_option maxHeartbeats 0
open Go.Proofs
theorem joins_spec (p q : List OpA) (code : Int) (i : InA) (hp : ∀ o ∈ p, inR o.n) (hq : ∀ o ∈ q, inR o.n) (hv : inR i.value.n) (ho : inR i.old.n) (hs : inR i.side.n) (ht : inR i.time) (hnow : inR i.now) :
    Spec Tryd.prog 5 [.lst false 3 (p.map encP), .lst false 3 (q.map encP), .int .i64 code, .agg (inC i)] (.bool true) [.lst false 3 (p.map encP), .lst false 3 (q.map encP), .int .i64 code, .agg (inC i)] := by
  have hcut := cut_f false p
  have hcut2 := cut_f false q
  have hsmall := small_f i
  have cutR : ∀ p : List OpA, (∀ o ∈ p, inR o.n) → ∀ o ∈ cutL p, inR o.n := fun p hp o ho => by
    obtain ⟨q, hq, rfl⟩ := List.mem_map.1 ho
    exact hp q (List.mem_of_mem_take hq)
  have hpc := cutR p hp
  have hqc := cutR q hq
  have h1 : (cutL p).length ≤ 70 := by unfold cutL; simp; omega
  have h2 : (cutL q).length ≤ 70 := by unfold cutL; simp; omega
  have hrunP := run_f false (cutL p) (inCut i) 300 hpc hv ho hs ht hnow
  have hrunQ := run_f false (cutL q) (inCut i) 300 hqc hv ho hs ht hnow
  have hv : inR (inCut i).value.n := hv
  have ho : inR (inCut i).old.n := ho
  have hs : inR (inCut i).side.n := hs
  have ht : inR (inCut i).time := ht
  have hnow : inR (inCut i).now := hnow
  clear cutR
  generalize cutL p = P at *
  generalize cutL q = Q at *
  generalize inCut i = I at *
  obtain ⟨t, hT⟩ : ∃ t, code.tmod 23 = t := ⟨_, rfl⟩
  have htb := tmod_b code 22
  rw [show ((22 : Nat) : Int) + 1 = 23 by rfl, hT] at htb
  obtain ⟨u, hu⟩ : ∃ u, 10 + t = u := ⟨_, rfl⟩
  have hub : -12 ≤ u ∧ u ≤ 32 := by omega
  have pk := Pk.mk (And.intro hpc (And.intro hqc (And.intro hv (And.intro ho (And.intro hs (And.intro ht (And.intro hnow (And.intro hrunP hrunQ))))))))
  clear hpc hqc hv ho hs ht hnow hrunP hrunQ hp hq
  apply absorb
  case m =>
    intro key
    refine spec_go Tryd.f5 ?_; simp (maxSteps := 1000000) (disch := omega) only [push_cast, go_sem, simprocAttr, Tryd.f5, *]
    repeat' (first
    | (with_reducible first | refine drw_stop2 [(2, .int .i64 u), (0, .row 1 P.length 0 P.length), (1, .row 2 Q.length 0 Q.length), (7, .loc 0 0)] ?_ | refine drw_stop2 [(2, .int .i64 10), (0, .row 1 P.length 0 P.length), (1, .row 2 Q.length 0 Q.length), (7, .loc 0 0)] ?_)
    | with_reducible refine And.intro ?_ ?_
    | ((first | (with_reducible intro hx; (try simp only [false_dec, true_dec, Int.ofNat_inj, gt_iff_lt, ge_iff_le, decide_eq_true_eq, decide_eq_false_iff_not, Bool.not_eq_true', Bool.not_eq_false', Bool.and_eq_true, Bool.or_eq_false_iff, ne_eq, Classical.not_not] at hx); (first | (exfalso; omega) | skip)) | with_reducible refine branch_t ?_ | with_reducible refine branch_f ?_) <;> (try simp (maxSteps := 1000000) (disch := omega) only [push_cast, go_sem, simprocAttr, *]))
    | with_reducible refine cond_split ?_ ?_
    | with_reducible refine guard_split ?_ ?_
    | with_reducible refine still_split ?_ ?_
    | ((with_reducible refine drw_own ?_); simp (maxSteps := 1000000) (disch := omega) only [push_cast, go_sem, simprocAttr, *]; (with_reducible refine drw_id ?_))
    | ((first | with_reducible refine drw_plan3 pl5_0 ?_ | with_reducible refine drw_plan3 pl5_1 ?_ | with_reducible refine drw_plan3 pl5_2 ?_); (try simp (maxSteps := 1000000) (disch := omega) only [push_cast, go_sem, simprocAttr, *]); (fail_if_success (with_reducible change False)))
    | ((first | with_reducible refine drw_in ?_ | with_reducible refine call_by3 [] (hcut) ?_ | with_reducible refine call_by3 [] (hcut2) ?_ | with_reducible refine call_by3 [] (hsmall) ?_) <;> (try simp (maxSteps := 1000000) (disch := omega) only [push_cast, go_sem, simprocAttr, *]))
    | omega)
    rotate_left
    · have hc : Two u := by unfold Two; omega
      generalize u = c at hc ⊢
      exact key.get c hc
    all_goals exact key.get 10 (by unfold Two; omega)
  case k =>
    intro c hc
    refine stop_go ?_
    obtain ⟨hpc, hqc, hv, ho, hs, ht, hnow, hrunP, hrunQ⟩ := pk.get
    clear pk
    have ours1 := ours_f false P (by omega)
    have ours2 := ours_f false Q (by omega)
    have hgiven := given_f I
    have hj : Spec Tryd.prog 17 [.lst false 1 [.lst false 3 (P.map encP), .lst false 3 (Q.map encP), .lst false 3 [.agg [.int .i64 c, .int .i64 0, .str (ofL [])]]]] (.olst 3 ((allOf P Q c).map encP)) [.lst false 1 [.lst false 3 (P.map encP), .lst false 3 (Q.map encP), .lst false 3 [.agg [.int .i64 c, .int .i64 0, .str (ofL [])]]]] := by
      have := join_f false [P, Q, [⟨c, 0, []⟩]] (by simp; omega) (by simp)
      rw [join_is hpc (by unfold Two at hc; omega)] at this
      exact this
    have hlen : (allOf P Q c).length = P.length + Q.length + 1 := all_len
    have haw := awake19_spec
    obtain ⟨⟨A, n, e⟩, hR1⟩ : ∃ R, runL P I 300 = R := ⟨_, rfl⟩
    obtain ⟨⟨B, m, f⟩, hR2⟩ : ∃ R, runL Q I 300 = R := ⟨_, rfl⟩
    rw [hR1] at hrunP
    rw [hR2] at hrunQ
    dsimp only at hrunP hrunQ
    have pk := Pk.mk (And.intro hpc (And.intro hqc (And.intro hv (And.intro ho (And.intro hs (And.intro ht (And.intro hnow (And.intro hR1 hR2))))))))
    clear hpc hqc hv ho hs ht hnow hR1 hR2
    repeat' (first
    | with_reducible refine And.intro ?_ ?_
    | ((first | (with_reducible intro hx; (try simp only [false_dec, true_dec, Int.ofNat_inj, gt_iff_lt, ge_iff_le, decide_eq_true_eq, decide_eq_false_iff_not, Bool.not_eq_true', Bool.not_eq_false', Bool.and_eq_true, Bool.or_eq_false_iff, ne_eq, Classical.not_not] at hx); (first | (exfalso; omega) | skip)) | with_reducible refine branch_t ?_ | with_reducible refine branch_f ?_) <;> (try simp (maxSteps := 1000000) (disch := omega) only [push_cast, go_sem, simprocAttr, *]))
    | with_reducible refine cond_split ?_ ?_
    | with_reducible refine guard_split ?_ ?_
    | with_reducible refine still_split ?_ ?_
    | ((with_reducible refine drw_own ?_); simp (maxSteps := 1000000) (disch := omega) only [push_cast, go_sem, simprocAttr, *]; (with_reducible refine drw_id ?_))
    | ((first | with_reducible refine drw_plan3 pl5_0 ?_ | with_reducible refine drw_plan3 pl5_1 ?_ | with_reducible refine drw_plan3 pl5_2 ?_); (try simp (maxSteps := 1000000) (disch := omega) only [push_cast, go_sem, simprocAttr, *]); (fail_if_success (with_reducible change False)))
    | ((first | with_reducible refine drw_in ?_ | with_reducible refine call_by3 [] (ours1) ?_ | with_reducible refine call_by3 [] (ours2) ?_ | with_reducible refine call_by3 [] (hgiven) ?_ | with_reducible refine call_by3 [] (hrunP) ?_ | with_reducible refine call_by3 [] (hrunQ) ?_ | with_reducible refine call_by3 [] (hj) ?_) <;> (try simp (maxSteps := 1000000) (disch := omega) only [push_cast, go_sem, simprocAttr, *]))
    | omega)
    refine loop_go (σ := Nat) (fun k N => ([(108, .int .i64 k), (107, .int .i64 Q.length), (106, .row 2 Q.length 0 Q.length), (16, .row 11 (allOf P Q c).length 0 (allOf P Q c).length), (14, .int .i64 f), (13, .int .i64 m), (12, .loc 6 0), (11, .int .i64 e), (10, .int .i64 n), (9, .loc 4 0), (7, .loc 0 0), (2, .int .i64 c), (1, .row 2 Q.length 0 Q.length), (0, .row 1 P.length 0 P.length)],
      [(11, .row 3 ((allOf P Q c).map encP) false), (6, .obj (.agg [.int .i64 B.kind, .int .i64 B.n, .str (ofL B.s)])), (4, .obj (.agg [.int .i64 A.kind, .int .i64 A.n, .str (ofL A.s)])), (2, .row 3 (Q.map encP) false), (1, .row 3 (P.map encP) false), (0, .obj (.agg (inC I)))])) (fun k => k ≤ Q.length) (fun k => Q.length - k) 0 (by simp) ?_
    rintro k N hN hk
    dsimp only at *
    by_cases hkl : k < Q.length
    · have hidx : ((P.length : Int) + (k : Int)).toNat = P.length + k := by omega
      have hlt : ((P.length : Int) + (k : Int)).toNat < (allOf P Q c).length := by omega
      have hg : (allOf P Q c)[((P.length : Int) + (k : Int)).toNat] = shiftO P.length Q[k] := by
        simp only [hidx]
        exact all_get hkl (by omega)
      have hgc : (allOf P Q c)[((P.length : Int) + (k : Int)).toNat].code = Q[k].code := by rw [hg, shift_code]
      have hgn : (allOf P Q c)[((P.length : Int) + (k : Int)).toNat].n = if Q[k].code = 36 ∨ Q[k].code = 37 then w64 (Q[k].n + P.length) else Q[k].n := by rw [hg]; unfold shiftO; split <;> rfl
      clear hg hidx hlen
      by_cases hj : Q[k].code = 36 ∨ Q[k].code = 37
      · rw [if_pos hj] at hgn
        simp (maxSteps := 1000000) (disch := omega) only [push_cast, go_sem, simprocAttr, *]
        repeat' (first
    | with_reducible refine And.intro ?_ ?_
    | ((first | (with_reducible intro hx; (try simp only [false_dec, true_dec, Int.ofNat_inj, gt_iff_lt, ge_iff_le, decide_eq_true_eq, decide_eq_false_iff_not, Bool.not_eq_true', Bool.not_eq_false', Bool.and_eq_true, Bool.or_eq_false_iff, ne_eq, Classical.not_not] at hx); (first | (exfalso; omega) | skip)) | with_reducible refine branch_t ?_ | with_reducible refine branch_f ?_) <;> (try simp (maxSteps := 1000000) (disch := omega) only [push_cast, go_sem, simprocAttr, *]))
    | with_reducible refine cond_split ?_ ?_
    | with_reducible refine guard_split ?_ ?_
    | with_reducible refine still_split ?_ ?_
    | ((with_reducible refine drw_own ?_); simp (maxSteps := 1000000) (disch := omega) only [push_cast, go_sem, simprocAttr, *]; (with_reducible refine drw_id ?_))
    | ((first | with_reducible refine drw_plan3 pl5_0 ?_ | with_reducible refine drw_plan3 pl5_1 ?_ | with_reducible refine drw_plan3 pl5_2 ?_); (try simp (maxSteps := 1000000) (disch := omega) only [push_cast, go_sem, simprocAttr, *]); (fail_if_success (with_reducible change False)))
    | ((first | with_reducible refine drw_in ?_) <;> (try simp (maxSteps := 1000000) (disch := omega) only [push_cast, go_sem, simprocAttr, *]))
    | omega)
        all_goals exact loop_on (k + 1) (by omega)
      · rw [if_neg hj] at hgn
        simp (maxSteps := 1000000) (disch := omega) only [push_cast, go_sem, simprocAttr, *]
        repeat' (first
    | with_reducible refine And.intro ?_ ?_
    | ((first | (with_reducible intro hx; (try simp only [false_dec, true_dec, Int.ofNat_inj, gt_iff_lt, ge_iff_le, decide_eq_true_eq, decide_eq_false_iff_not, Bool.not_eq_true', Bool.not_eq_false', Bool.and_eq_true, Bool.or_eq_false_iff, ne_eq, Classical.not_not] at hx); (first | (exfalso; omega) | skip)) | with_reducible refine branch_t ?_ | with_reducible refine branch_f ?_) <;> (try simp (maxSteps := 1000000) (disch := omega) only [push_cast, go_sem, simprocAttr, *]))
    | with_reducible refine cond_split ?_ ?_
    | with_reducible refine guard_split ?_ ?_
    | with_reducible refine still_split ?_ ?_
    | ((with_reducible refine drw_own ?_); simp (maxSteps := 1000000) (disch := omega) only [push_cast, go_sem, simprocAttr, *]; (with_reducible refine drw_id ?_))
    | ((first | with_reducible refine drw_plan3 pl5_0 ?_ | with_reducible refine drw_plan3 pl5_1 ?_ | with_reducible refine drw_plan3 pl5_2 ?_); (try simp (maxSteps := 1000000) (disch := omega) only [push_cast, go_sem, simprocAttr, *]); (fail_if_success (with_reducible change False)))
    | ((first | with_reducible refine drw_in ?_) <;> (try simp (maxSteps := 1000000) (disch := omega) only [push_cast, go_sem, simprocAttr, *]))
    | omega)
        all_goals exact loop_on (k + 1) (by omega)
    · by_cases hall : e = 0 ∧ f = 0 ∧ (allOf P Q c).length ≤ 64
      · obtain ⟨rfl, rfl, h64⟩ := hall
        obtain ⟨hpc, hqc, hv, ho, hs, ht, hnow, hR1, hR2⟩ := pk.get
        have e1 : (runL P I 300).2.2 = 0 := by rw [hR1]
        have e2 : (runL Q I 300).2.2 = 0 := by rw [hR2]
        have mP := runL_may e1
        have mQ := runL_may e2
        have iA := runL_inR hpc hv ho hs ht hnow e1
        have iB := runL_inR hqc hv ho hs ht hnow e2
        have b1 := runL_bounds mP (k := 300) (by omega) (by omega)
        have b2 := runL_bounds mQ (k := 300) (by omega) (by omega)
        rw [hR1] at iA b1
        rw [hR2] at iB b2
        dsimp only at iA iB b1 b2
        have hend := joins_pure mP mQ (may_ok mP hv ho hs ht hnow) hpc hqc hc (by omega) hR1 hR2
        have z0 : inR 0 := by unfold inR; omega
        have hrun3 := run_f false (allOf P Q c) I 1000 (all_inR hpc hqc) hv ho hs ht hnow
        have hrun4 : Spec Tryd.prog 11 [.lst false 3 [.agg [.int .i64 8, .int .i64 0, .str (ofL [])], .agg [.int .i64 9, .int .i64 0, .str (ofL [])], .agg [.int .i64 c, .int .i64 0, .str (ofL [])]], .agg [.str (ofL []), .int .i64 0, .int .i64 0, .str (ofL []), .int .i64 0, .int .i64 0, .int .i64 A.kind, .int .i64 A.n, .str (ofL A.s), .int .i64 B.kind, .int .i64 B.n, .str (ofL B.s)], .int .i64 10] (.tup [.agg [.int .i64 ((runL [⟨8, 0, []⟩, ⟨9, 0, []⟩, ⟨c, 0, []⟩] ⟨[], vNone, 0, 0, A, B⟩ 10).1).kind, .int .i64 ((runL [⟨8, 0, []⟩, ⟨9, 0, []⟩, ⟨c, 0, []⟩] ⟨[], vNone, 0, 0, A, B⟩ 10).1).n, .str (ofL ((runL [⟨8, 0, []⟩, ⟨9, 0, []⟩, ⟨c, 0, []⟩] ⟨[], vNone, 0, 0, A, B⟩ 10).1).s)], .int .i64 (runL [⟨8, 0, []⟩, ⟨9, 0, []⟩, ⟨c, 0, []⟩] ⟨[], vNone, 0, 0, A, B⟩ 10).2.1, .int .i64 (runL [⟨8, 0, []⟩, ⟨9, 0, []⟩, ⟨c, 0, []⟩] ⟨[], vNone, 0, 0, A, B⟩ 10).2.2]) [.lst false 3 [.agg [.int .i64 8, .int .i64 0, .str (ofL [])], .agg [.int .i64 9, .int .i64 0, .str (ofL [])], .agg [.int .i64 c, .int .i64 0, .str (ofL [])]], .agg [.str (ofL []), .int .i64 0, .int .i64 0, .str (ofL []), .int .i64 0, .int .i64 0, .int .i64 A.kind, .int .i64 A.n, .str (ofL A.s), .int .i64 B.kind, .int .i64 B.n, .str (ofL B.s)], .int .i64 10] :=
          run_f false [⟨8, 0, []⟩, ⟨9, 0, []⟩, ⟨c, 0, []⟩] ⟨[], vNone, 0, 0, A, B⟩ 10 (by simp [z0]) z0 iA iB z0 z0
        obtain ⟨⟨X, K, g⟩, hR3⟩ : ∃ R, runL (allOf P Q c) I 1000 = R := ⟨_, rfl⟩
        obtain ⟨⟨Y, K2, h⟩, hR4⟩ : ∃ R, runL [⟨8, 0, []⟩, ⟨9, 0, []⟩, ⟨c, 0, []⟩] ⟨[], vNone, 0, 0, A, B⟩ 10 = R := ⟨_, rfl⟩
        rw [hR3] at hrun3 hend
        rw [hR4] at hrun4 hend
        dsimp only at hrun3 hrun4 hend
        have hfin : g = 43 ∨ g = h ∧ X = Y ∧ (g = 0 → K = n + m + 1) := by
          rcases hend with h | ⟨h1, h2⟩
          · exact .inl h
          · right
            unfold endF at h1 h2
            split at h1
            · rename_i hz
              rw [if_pos hz] at h2
              simp only [Prod.mk.injEq] at h1 h2
              exact ⟨h1.2.2.trans h2.2.2.symm, h1.1.trans h2.1.symm, fun h0 => absurd (h1.2.2.symm.trans h0) hz⟩
            · rename_i hz
              rw [if_neg hz] at h2
              simp only [Prod.mk.injEq] at h1 h2
              exact ⟨h1.2.2.trans h2.2.2.symm, h1.1.trans h2.1.symm, fun _ => h1.2.1⟩
        clear hlen hend hR1 hR2 hR3 hR4 e1 e2 mP mQ iA iB hpc hqc hv ho hs ht hnow z0 hrunP hrunQ hj ours1 ours2 hcut hcut2 hsmall
        rcases hfin with rfl | ⟨rfl, rfl, hK⟩
        · simp (maxSteps := 1000000) (disch := omega) only [push_cast, go_sem, simprocAttr, *]
          repeat' (first
    | with_reducible refine And.intro ?_ ?_
    | ((first | (with_reducible intro hx; (try simp only [false_dec, true_dec, Int.ofNat_inj, gt_iff_lt, ge_iff_le, decide_eq_true_eq, decide_eq_false_iff_not, Bool.not_eq_true', Bool.not_eq_false', Bool.and_eq_true, Bool.or_eq_false_iff, ne_eq, Classical.not_not] at hx); (first | (exfalso; omega) | skip)) | with_reducible refine branch_t ?_ | with_reducible refine branch_f ?_) <;> (try simp (maxSteps := 1000000) (disch := omega) only [push_cast, go_sem, simprocAttr, *]))
    | with_reducible refine cond_split ?_ ?_
    | with_reducible refine guard_split ?_ ?_
    | with_reducible refine still_split ?_ ?_
    | ((with_reducible refine drw_own ?_); simp (maxSteps := 1000000) (disch := omega) only [push_cast, go_sem, simprocAttr, *]; (with_reducible refine drw_id ?_))
    | ((first | with_reducible refine drw_plan3 pl5_0 ?_ | with_reducible refine drw_plan3 pl5_1 ?_ | with_reducible refine drw_plan3 pl5_2 ?_); (try simp (maxSteps := 1000000) (disch := omega) only [push_cast, go_sem, simprocAttr, *]); (fail_if_success (with_reducible change False)))
    | ((first | with_reducible refine drw_in ?_ | with_reducible refine call_by3 [] (hgiven) ?_ | with_reducible refine call_by3 [] (hrun3) ?_ | with_reducible refine call_by3 [] (hrun4) ?_ | with_reducible refine call_by3 [] (haw) ?_) <;> (try simp (maxSteps := 1000000) (disch := omega) only [push_cast, go_sem, simprocAttr, *]))
    | omega)
        · simp (maxSteps := 1000000) (disch := omega) only [push_cast, go_sem, simprocAttr, *]
          repeat' (first
    | with_reducible refine And.intro ?_ ?_
    | ((first | (with_reducible intro hx; (try simp only [false_dec, true_dec, Int.ofNat_inj, gt_iff_lt, ge_iff_le, decide_eq_true_eq, decide_eq_false_iff_not, Bool.not_eq_true', Bool.not_eq_false', Bool.and_eq_true, Bool.or_eq_false_iff, ne_eq, Classical.not_not] at hx); (first | (exfalso; omega) | skip)) | with_reducible refine branch_t ?_ | with_reducible refine branch_f ?_) <;> (try simp (maxSteps := 1000000) (disch := omega) only [push_cast, go_sem, simprocAttr, *]))
    | with_reducible refine cond_split ?_ ?_
    | with_reducible refine guard_split ?_ ?_
    | with_reducible refine still_split ?_ ?_
    | ((with_reducible refine drw_own ?_); simp (maxSteps := 1000000) (disch := omega) only [push_cast, go_sem, simprocAttr, *]; (with_reducible refine drw_id ?_))
    | ((first | with_reducible refine drw_plan3 pl5_0 ?_ | with_reducible refine drw_plan3 pl5_1 ?_ | with_reducible refine drw_plan3 pl5_2 ?_); (try simp (maxSteps := 1000000) (disch := omega) only [push_cast, go_sem, simprocAttr, *]); (fail_if_success (with_reducible change False)))
    | ((first | with_reducible refine drw_in ?_ | with_reducible refine call_by3 [] (hgiven) ?_ | with_reducible refine call_by3 [] (hrun3) ?_ | with_reducible refine call_by3 [] (hrun4) ?_ | with_reducible refine call_by3 [] (haw) ?_) <;> (try simp (maxSteps := 1000000) (disch := omega) only [push_cast, go_sem, simprocAttr, *]))
    | omega)
      · clear hlen
        simp (maxSteps := 1000000) (disch := omega) only [push_cast, go_sem, simprocAttr, *]
        repeat' (first
    | with_reducible refine And.intro ?_ ?_
    | ((first | (with_reducible intro hx; (try simp only [false_dec, true_dec, Int.ofNat_inj, gt_iff_lt, ge_iff_le, decide_eq_true_eq, decide_eq_false_iff_not, Bool.not_eq_true', Bool.not_eq_false', Bool.and_eq_true, Bool.or_eq_false_iff, ne_eq, Classical.not_not] at hx); (first | (exfalso; omega) | skip)) | with_reducible refine branch_t ?_ | with_reducible refine branch_f ?_) <;> (try simp (maxSteps := 1000000) (disch := omega) only [push_cast, go_sem, simprocAttr, *]))
    | with_reducible refine cond_split ?_ ?_
    | with_reducible refine guard_split ?_ ?_
    | with_reducible refine still_split ?_ ?_
    | ((with_reducible refine drw_own ?_); simp (maxSteps := 1000000) (disch := omega) only [push_cast, go_sem, simprocAttr, *]; (with_reducible refine drw_id ?_))
    | ((first | with_reducible refine drw_plan3 pl5_0 ?_ | with_reducible refine drw_plan3 pl5_1 ?_ | with_reducible refine drw_plan3 pl5_2 ?_); (try simp (maxSteps := 1000000) (disch := omega) only [push_cast, go_sem, simprocAttr, *]); (fail_if_success (with_reducible change False)))
    | ((first | with_reducible refine drw_in ?_ | with_reducible refine call_by3 [] (haw) ?_) <;> (try simp (maxSteps := 1000000) (disch := omega) only [push_cast, go_sem, simprocAttr, *]))
    | omega)
end Go.Ev

set_option linter.unusedVariables false
namespace Go.Ev
open Go.Proofs
theorem wf_in {n : Int} (h : (Lit.int .i64 n).wf = true) : inR n := by
  simp only [Lit.wf, Bool.and_eq_true, decide_eq_true_eq] at h
  exact h
theorem fits_op {cs : List AV} (h : Fits [.int .i64, .int .i64, .str] cs) : ∃ o : OpA, AV.agg cs = encP o ∧ inR o.n := by
  cases h with
  | int _ c _ h => cases h with
    | int _ n hn h => cases h with
      | str s _ h => cases h; exact ⟨⟨c, n, s.data.toList⟩, by rw [encP, ← ofL_of], wf_in hn⟩
structure InRs (i : InA) : Prop where
  v : inR i.value.n
  o : inR i.old.n
  s : inR i.side.n
  t : inR i.time
  n : inR i.now
theorem fits_in {cs : List AV} (h : Fits [.str, .int .i64, .int .i64, .str, .int .i64, .int .i64, .int .i64, .int .i64, .str, .int .i64, .int .i64, .str] cs) : ∃ i : InA, AV.agg cs = .agg (inC i) ∧ InRs i := by
  cases h with
  | str k _ h => cases h with
    | int _ a1 _ h => cases h with
      | int _ a2 w1 h => cases h with
        | str a3 _ h => cases h with
          | int _ t wt h => cases h with
            | int _ nw wn h => cases h with
              | int _ b1 _ h => cases h with
                | int _ b2 w2 h => cases h with
                  | str b3 _ h => cases h with
                    | int _ c1 _ h => cases h with
                      | int _ c2 w3 h => cases h with
                        | str c3 _ h =>
                          cases h
                          exact ⟨⟨k.data.toList, ⟨a1, a2, a3.data.toList⟩, t, nw, ⟨b1, b2, b3.data.toList⟩, ⟨c1, c2, c3.data.toList⟩⟩, by simp only [inC, ← ofL_of], ⟨wf_in w1, wf_in w2, wf_in w3, wf_in wt, wf_in wn⟩⟩
end Go.Ev
namespace Go.Proofs.YtjmbfcodmmnbiaaDoor
open Go.Ev
theorem gok23 (k : Nat) (h : gok Tryd.prog k = true) : k = 2 ∨ k = 3 := by
  rcases Nat.lt_or_ge k 8 with hk | hk
  · have h1 : ((List.range 8).all fun k => !gok Tryd.prog k || Nat.beq k 2 || Nat.beq k 3) = true := by kernel_rfl
    have := List.all_eq_true.1 h1 k (List.mem_range.2 hk)
    rw [h] at this
    simpa [Nat.beq_eq] using this
  · have hs : Tryd.prog.globals.size = 8 := by kernel_rfl
    unfold gok at h
    rw [Array.getElem?_eq_none (by rw [hs]; exact hk)] at h
    cases h
theorem gmx0 (k : Nat) (h : gmx Tryd.prog k = true) : k = 0 := by
  rcases Nat.lt_or_ge k 8 with hk | hk
  · have h1 : ((List.range 8).all fun k => !gmx Tryd.prog k || Nat.beq k 0) = true := by kernel_rfl
    have := List.all_eq_true.1 h1 k (List.mem_range.2 hk)
    rw [h] at this
    simpa [Nat.beq_eq] using this
  · have hs : Tryd.prog.globals.size = 8 := by kernel_rfl
    unfold gmx at h
    rw [Array.getElem?_eq_none (by rw [hs]; exact hk)] at h
    cases h
theorem gtb1 (k : Nat) (h : gtb Tryd.prog k = true) : k = 1 := by
  rcases Nat.lt_or_ge k 8 with hk | hk
  · have h1 : ((List.range 8).all fun k => !gtb Tryd.prog k || Nat.beq k 1) = true := by kernel_rfl
    have := List.all_eq_true.1 h1 k (List.mem_range.2 hk)
    rw [h] at this
    simpa [Nat.beq_eq] using this
  · have hs : Tryd.prog.globals.size = 8 := by kernel_rfl
    unfold gtb at h
    rw [Array.getElem?_eq_none (by rw [hs]; exact hk)] at h
    cases h
theorem pow10_is : Rows.laid_internal_strconv_uint64pow10 (H := Unit) = Lib.tabData .u64 Lib.pow10Tab := by kernel_rfl
end Go.Proofs.YtjmbfcodmmnbiaaDoor
