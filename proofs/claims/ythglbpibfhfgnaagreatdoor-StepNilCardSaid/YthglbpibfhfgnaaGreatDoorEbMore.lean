/-
The closed evaluator: interfaces, parts, capacities, texts ranged over, functions without a body.
-/
import Derived.Test.YthglbpibfhfgnaaGreatDoorEb9
import Derived.Lib.Bytealg
import Derived.Laws.Externs
set_option linter.unusedVariables false
set_option linter.unusedSimpArgs false
namespace Go.Eb
open Go.Ev (szT byT aggO offT fszT TK kindT elemK zok LK leavesT openB kind_slice kind_array kind_str kind_int run_sizeOf szT_info addr_add At zok_is)
variable {A : Type} {P : Program} {w0 : World} {g : Env} {F : Fr} {M : Mm} {n m : Nat} {a : Act} {w : World} {K : V → Mm → Nat → Option A} {r : A}

theorem makeInterface_did (hM : RM w0 g M n w) {t : TypeId} {v : V} {cv : Value} (hv : Rep g v cv) (h : bb (conc P t) (K (.ifc t v) M n) = some r) : DidS w0 g M n w K r ((Instr.makeInterface t cv).run P w) := by
  replace h := bb_some h; obtain ⟨hc, h⟩ := h
  have : (Instr.makeInterface t cv).run P w = .ok (.iface t cv) w := by
    unfold conc at hc
    split at hc
    · cases hc
    · rename_i d hn hd
      unfold Instr.makeInterface
      simp only [Sem.run_bind, run_underlying hd, Result.andThen_ok]
      cases d <;> first | rfl | exact absurd rfl (hn _)
    · cases hc
  exact this ▸ did_ok hM h (.ifc hv)

theorem ifc_eq1 (d : Nat) {t : TypeId} {ms : Array (String × TypeId)} (hu : P.underlying t = some (.interface ms)) (a : TypeId) (b : Value) : (Op.equalIn (d + 1) t .nilIface (.iface a b)).run P w = .ok false w := by
  simp only [Op.equalIn, Sem.run_bind, run_underlying hu, Result.andThen_ok, Sem.run_pure]
theorem ifc_eq2 (d : Nat) {t : TypeId} {ms : Array (String × TypeId)} (hu : P.underlying t = some (.interface ms)) (a : TypeId) (b : Value) : (Op.equalIn (d + 1) t (.iface a b) .nilIface).run P w = .ok false w := by
  simp only [Op.equalIn, Sem.run_bind, run_underlying hu, Result.andThen_ok, Sem.run_pure]
theorem ifc_eq3 (d : Nat) {t : TypeId} {ms : Array (String × TypeId)} (hu : P.underlying t = some (.interface ms)) : (Op.equalIn (d + 1) t .nilIface .nilIface).run P w = .ok true w := by
  simp only [Op.equalIn, Sem.run_bind, run_underlying hu, Result.andThen_ok, Sem.run_pure]
theorem ifc_eq4 (d : Nat) {t : TypeId} {ms : Array (String × TypeId)} (hu : P.underlying t = some (.interface ms)) {a b : TypeId} (h : a ≠ b) (x y : Value) : (Op.equalIn (d + 1) t (.iface a x) (.iface b y)).run P w = .ok false w := by
  simp only [Op.equalIn, Sem.run_bind, run_underlying hu, Result.andThen_ok]
  rw [if_pos h]
  rfl
theorem ifc_eq5 (d : Nat) {t : TypeId} {ms : Array (String × TypeId)} (hu : P.underlying t = some (.interface ms)) {a : TypeId} {i : TypeInfo} (hi : P.info? a = some i) (hc : i.comparable = true) {k : IntKind} (hk : P.underlying a = some (.int k)) (x y : Int) : (Op.equalIn (d + 2) t (.iface a (.int k x)) (.iface a (.int k y))).run P w = .ok (x == y) w := by
  simp only [Op.equalIn, Sem.run_bind, run_underlying hu, Result.andThen_ok]
  rw [if_neg (by simp)]
  simp only [typeInfo, Sem.run_bind, run_program, Result.andThen_ok, hi, Sem.run_pure, hc, Bool.not_true, Bool.false_eq_true, if_false, run_underlying hk, if_true]
theorem ifcE_run {t : TypeId} {ms : Array (String × TypeId)} (hu : P.underlying t = some (.interface ms)) {ox oy : Operand} {x y : V} {cx cy : Value} {c : Bool} (hc : (isConst ox || isConst oy) = c) (hx : Rep g x cx) (hy : Rep g y cy) {b : Bool} (h : ifcE P c x y = some b) :
    (Op.equal t cx cy).run P w = .ok b w ∧ (∀ op, (eqGuard op t ox oy cx cy).run P w = .ok () w) ∧ (∀ k n, cx ≠ .int k n) ∧ (∀ s, cx ≠ .string s) ∧ (∀ k b, cx ≠ .float k b) ∧ (∀ k a b, cx ≠ .complex k a b) := by
  unfold ifcE at h
  split at h
  · cases hx; cases hy
    split at h
    · rename_i hc'
      injection h with h; subst h
      refine ⟨by rw [Op.equal, Op.maxDepth]; exact ifc_eq3 9999 hu, fun op => ?_, by simp, by simp, by simp, by simp⟩
      cases op <;> first | rfl | (cases ox <;> cases oy <;> first | rfl | (simp [isConst] at hc; done))
    · cases h
  · cases hx; cases hy
    injection h with h; subst h
    exact ⟨by rw [Op.equal, Op.maxDepth]; exact ifc_eq1 9999 hu _ _, fun op => by cases op <;> rfl, by simp, by simp, by simp, by simp⟩
  · cases hx; cases hy
    injection h with h; subst h
    exact ⟨by rw [Op.equal, Op.maxDepth]; exact ifc_eq2 9999 hu _ _, fun op => by cases op <;> rfl, by simp, by simp, by simp, by simp⟩
  · cases hx with | ifc h1 => cases hy with | ifc h2 =>
      cases h1; cases h2
      refine ⟨?_, fun op => by cases op <;> rfl, by simp, by simp, by simp, by simp⟩
      rw [Op.equal, Op.maxDepth]
      split at h
      · rename_i hne
        injection h with h; subst h
        exact ifc_eq4 9999 hu (fun e => by rw [e, Nat.beq_refl] at hne; cases hne) _ _
      · rename_i heq
        have heq := Nat.eq_of_beq_eq_true heq
        subst heq
        split at h
        · rename_i i hk
          split at h
          · rename_i hb
            injection h with h; subst h
            simp only [Bool.and_eq_true, decide_eq_true_eq] at hb
            obtain ⟨⟨rfl, rfl⟩, hcm⟩ := hb
            unfold cmpOk at hcm
            split at hcm
            · rename_i inf hi
              rw [ifc_eq5 9998 hu hi hcm (Ev.kind_int hk), eqI_eq]
              congr 1
            · cases hcm
          · cases h
        · cases h
  · cases h
theorem ifcB_did (hM : RM w0 g M n w) {op : BinOp} {t : TypeId} {ox oy : Operand} {x y : V} {cx cy : Value} (ht : isIfc P t = true) (hx : Rep g x cx) (hy : Rep g y cy) (h : ifcB P op (isConst ox || isConst oy) x y M n K = some r) :
    DidS w0 g M n w K r ((do eqGuard op t ox oy cx cy; binOp op t cx cy : Sem Value).run P w) := by
  obtain ⟨ms, hu⟩ : ∃ ms, P.underlying t = some (.interface ms) := by
    unfold isIfc at ht
    split at ht
    · rename_i ms hu; exact ⟨ms, hu⟩
    · cases ht
  unfold ifcB at h
  split at h
  · replace h := ob_some h; obtain ⟨b, hb, h⟩ := h
    rw [kB_eq] at h
    obtain ⟨k1, k2, k3, k4, k5, k6⟩ := ifcE_run (P := P) (w := w) hu rfl hx hy hb
    exact bin_val hM (k2 _) ((binOp_eql k1 k3 k4 k5 k6).1 ▸ did_ok hM h (.bool _))
  · replace h := ob_some h; obtain ⟨b, hb, h⟩ := h
    rw [kB_eq] at h
    obtain ⟨k1, k2, k3, k4, k5, k6⟩ := ifcE_run (P := P) (w := w) hu rfl hx hy hb
    exact bin_val hM (k2 _) ((binOp_eql k1 k3 k4 k5 k6).2 ▸ did_ok hM h (.bool _))
  · cases h

theorem RepL.drop : ∀ {as : List V} {vs : List Value} (k : Nat), RepL g as vs → RepL g (as.drop k) (vs.drop k)
  | _, _, 0, h => by simpa using h
  | _, _, k + 1, .nil => by simpa using RepL.nil
  | _, _, k + 1, .cons h t => by simpa using t.drop k
theorem partB_did (hM : RM w0 g M n w) {t : TypeId} {f : Nat} {x : V} {cx : Value} (hx : Rep g x cx) (h : partB P M n t f x K = some r) : DidS w0 g M n w K r ((Instr.field t cx f).run P w) := by
  unfold partB at h
  split at h
  · rename_i cs
    replace h := ob_some h; obtain ⟨⟨ft, off⟩, hf, h⟩ := h
    replace h := ob_some h; obtain ⟨ag, hag, h⟩ := h
    dsimp only at hag h
    unfold fldT at hf
    split at hf
    · rename_i fs hu
      split at hf
      · rename_i fd hfd
        injection hf with hf; injection hf with e1 e2
        subst e1 e2
        cases hx with | @agg _ vs hvs h1 =>
          have hrun : (Instr.field t (.agg vs) f).run P w = (part fd.type vs fd.offset).run P w := by
            unfold Instr.field
            simp only [Sem.run_bind, run_underlying hu, Result.andThen_ok, hfd, asAgg, Sem.run_pure]
          rw [hrun]
          unfold part
          cases ag with
          | true =>
            replace h := bb_some h; obtain ⟨hb, h⟩ := h
            rw [Bool.and_eq_true, Nat.blt_eq] at hb
            obtain ⟨hp, hl⟩ := hb
            have hl := Nat.le_of_ble_eq_true hl
            obtain ⟨i, hi⟩ := szT_info hp
            have hsz : szT P fd.type = i.size := by simp [szT, hi]
            simp only [Sem.run_bind, Ev.aggO_run hag, Result.andThen_ok, if_true, run_sizeOf hi, Sem.run_pure]
            refine did_ok hM h (.agg ?_ fun c hc => h1 c (List.mem_of_mem_drop (List.mem_of_mem_take hc)))
            have : (vs.extract fd.offset (fd.offset + i.size)).toList = (vs.toList.drop fd.offset).take i.size := by
              rw [Array.toList_extract, List.extract_eq_take_drop]
              congr 1
              omega
            rw [this, hsz]
            exact (hvs.drop _).take _
          | false =>
            replace h := ob_some h; obtain ⟨v, hv, h⟩ := h
            obtain ⟨cv, hcv, hr⟩ := hvs.get hv
            rw [Array.getElem?_toList] at hcv
            simp only [Sem.run_bind, Ev.aggO_run hag, Result.andThen_ok, Bool.false_eq_true, if_false, hcv, Sem.run_pure]
            exact did_ok hM h hr
      · cases hf
    · cases hf
  · cases h

theorem capB_did (hM : RM w0 g M n w) {t ty : TypeId} {x : V} {cx : Value} (hx : Rep g x cx) (h : capB P M n t x K = some r) : DidS w0 g M n w K r ((Builtin.cap_ #[t] ty #[cx]).run P w) := by
  unfold capB at h
  split at h
  · rename_i e hk
    cases hx
    rw [kN_eq] at h
    exact (show (Builtin.cap_ #[t] ty #[.slice none 0 0]).run P w = .ok (.int .i64 ((0 : Nat) : Int)) w by simp [Builtin.cap_, run_underlying (kind_slice hk), goInt]) ▸ did_ok hM h (.int _ _)
  · rename_i e id off z len lim hk
    cases hx with | @sl _ _ _ _ cap _ x p hg he hle hp hc =>
      have hrun : ∀ c : Nat, cap = c → (Builtin.cap_ #[t] ty #[.slice (some p) len cap]).run P w = .ok (.int .i64 (c : Int)) w := fun c e => by subst e; simp [Builtin.cap_, run_underlying (kind_slice hk), goInt]
      split at h
      · rename_i c
        rw [kN_eq] at h
        exact hrun c hc.1 ▸ did_ok hM h (.int _ _)
      · replace h := cellsAt_some h; obtain ⟨k, ex, c, hid, h⟩ := h
        replace h := bb_some h; obtain ⟨hb, h⟩ := h
        simp only [Bool.and_eq_true, Nat.blt_eq, Nat.beq_eq] at hb
        obtain ⟨⟨⟨hex, hz⟩, hok⟩, hm⟩ := hb
        have hok := Nat.le_of_ble_eq_true hok
        rw [kN_eq] at h
        obtain ⟨y, hy, cs, ty', fr, b1, b2, b3, b4, b5, b6⟩ := hM.rep id _ hid
        obtain rfl : x = y := by rw [hg] at hy; injection hy
        have hc : x.base + off + cap * z = x.size := hc
        have b5 := b5 hex
        have hcap : cap = (k - off) / z := by
          have : k - off = cap * z := by omega
          rw [this, Nat.mul_div_cancel _ hz]
        exact hrun _ hcap ▸ did_ok hM h (.int _ _)
  · cases h

/-! ### A text ranged over -/
theorem rangeB_did (hM : RM w0 g M n w) {t : TypeId} {x : V} {cx : Value} (hx : Rep g x cx) (h : rangeB P M n t x K = some r) : Did w0 g M w K r ((Instr.range t cx).run P w) := by
  unfold rangeB at h
  split at h
  · rename_i l hk
    rw [newB_eq] at h
    cases hx with | @str s _ e hs =>
      subst e
      have hrun : (Instr.range t (.string s)).run P w = .ok (.pointer (some ⟨w.heap.size, 0, none⟩)) (w.alloc (.stringIter s 0)) := by
        unfold Instr.range
        simp [Sem.run_bind, run_underlying (kind_str hk)]
      rw [hrun]
      have hx := hM.alloc (w1 := w) (.stringIter s 0) rfl rfl rfl rfl (x := ⟨w.heap.size, 0, 0⟩) (b := .siter (natsOf s) 0) rfl ⟨s, by simp, rfl, rfl⟩
      exact ⟨_, _, _, _, _, _, h, rfl, .ptr (x := ⟨w.heap.size, 0, 0⟩) updG_new, hx.1, hx.2⟩
  · cases h

theorem nextB_did (hM : RM w0 g M n w) {sb : Bool} {ty : TypeId} {x : V} {cx : Value} (hx : Rep g x cx) (h : nextB M n sb x K = some r) : Did w0 g M w K r ((Instr.next cx sb ty).run P w) := by
  unfold nextB at h
  split at h
  · rename_i id
    replace h := ob_some h; obtain ⟨b, hb, h⟩ := h
    split at h
    · rename_i l pos
      cases hx with | @ptr _ _ x hg =>
        obtain ⟨y, hy, s, h1, h2, h3⟩ := hM.rep id _ hb
        obtain rfl : x = y := by rw [hg] at hy; injection hy
        subst h2
        have hobj : (getObj x.blk).run P w = .ok (.stringIter s pos) w := by
          show Sem.run P (.getObj x.blk .pure) w = _
          simp only [Sem.run, h1]
        have hlen := natsOf_length s
        rw [h3]
        split at h
        · rename_i hd
          have hle : s.size ≤ pos := by have := List.drop_eq_nil_iff.1 hd; omega
          have hrun : (Instr.next (.pointer (some ⟨x.blk, 0 + 0, none⟩)) true ty).run P w = .ok (.tuple #[.bool false]) w := by
            unfold Instr.next
            simp only [Nat.add_zero, Sem.run_bind, hobj, Result.andThen_ok]
            rw [if_neg (by omega)]
            rfl
          rw [hrun]
          exact ⟨_, _, _, _, _, _, h, rfl, .tup (.cons (.bool _) .nil), hM, .refl g M w⟩
        · rename_i ch rest hd
          replace h := bb_some h; obtain ⟨hch, h⟩ := h
          have hch : ch < 128 := by simpa [Nat.blt_eq] using hch
          rw [T.setK_set] at h
          have hpos : pos < (natsOf s).length := by
            apply Classical.byContradiction
            intro hn
            rw [List.drop_eq_nil_iff.2 (by omega)] at hd
            cases hd
          have hpos' : pos < s.size := by omega
          have hget : (natsOf s)[pos]? = some ch := by
            have := congrArg List.head? hd
            rw [List.head?_drop] at this
            exact this
          have hbyte : (s.get! pos).toNat = ch := by
            unfold natsOf at hget
            rw [List.getElem?_map, Array.getElem?_toList] at hget
            have hps : pos < s.data.size := hpos'
            rw [Array.getElem?_eq_getElem hps] at hget
            injection hget with hget
            have : s.get! pos = s.data[pos] := by
              show s.data[pos]! = _
              exact getElem!_pos s.data pos hps
            rw [this]; exact hget
          have hdec : Utf8.decode s pos = (ch, 1) := by
            unfold Utf8.decode
            simp only [Nat.add_zero, hbyte]
            rw [if_pos hch]
          have hlt : x.blk < w.heap.size := (hM.lt id x hg).2.2
          have hset : (setObj x.blk (.stringIter s (pos + 1))).run P w = .ok () { w with heap := w.heap.setIfInBounds x.blk (.stringIter s (pos + 1)) } := by
            simp [setObj, Sem.run, h1]
          have hrun : (Instr.next (.pointer (some ⟨x.blk, 0 + 0, none⟩)) true ty).run P w = .ok (.tuple #[.bool true, .int .i64 pos, .int .i32 ch]) { w with heap := w.heap.setIfInBounds x.blk (.stringIter s (pos + 1)) } := by
            unfold Instr.next
            simp only [Nat.add_zero, Sem.run_bind, hobj, Result.andThen_ok]
            rw [if_pos hpos', hdec]
            simp only [Sem.run_bind, hset, Result.andThen_ok, Sem.run_pure, goInt]
          rw [hrun]
          have hw := hM.write (w' := { w with heap := w.heap.setIfInBounds x.blk (.stringIter s (pos + 1)) }) (b' := .siter (natsOf s) (Nat.succ pos)) hb hg (fun k hk => by
            show (w.heap.setIfInBounds x.blk _)[k]? = _
            rw [Array.getElem?_setIfInBounds, if_neg (fun e => hk e.symm)]) (by show (w.heap.setIfInBounds x.blk _).size = _; simp) ⟨s, by
            show (w.heap.setIfInBounds x.blk _)[x.blk]? = _
            rw [Array.getElem?_setIfInBounds, if_pos rfl, if_pos hlt], rfl, h3⟩ rfl rfl rfl
          exact ⟨_, _, _, _, _, _, h, rfl, .tup (.cons (.bool _) (.cons (.int _ _) (.cons (.int _ _) .nil))), hw.1, hw.2⟩
    · cases h
  · cases h

/-! ### Functions without a body -/
theorem idxL_eq (u : UInt8) : ∀ (l : List UInt8) (i : Nat), idxL u.toNat (l.map (fun x : UInt8 => x.toNat)) i = if Lib.indexByte l u = -1 then none else some (i + (Lib.indexByte l u).toNat)
  | [], i => rfl
  | b :: l, i => by
    have hge := Lib.indexByte_ge l u
    show (match Nat.beq b.toNat u.toNat with | true => some i | false => idxL u.toNat (l.map (fun x : UInt8 => x.toNat)) (Nat.succ i)) = _
    rw [Lib.indexByte]
    by_cases h : b = u
    · subst h
      simp [Nat.beq_refl]
    · have h1 : Nat.beq b.toNat u.toNat = false := by
        cases hb : Nat.beq b.toNat u.toNat with
        | false => rfl
        | true => exact absurd (UInt8.toNat_inj.1 (Nat.eq_of_beq_eq_true hb)) h
      have h2 : (b == u) = false := by simpa using h
      rw [h1, h2, idxL_eq u l (Nat.succ i)]
      simp only [Bool.false_eq_true, if_false, beq_iff_eq]
      by_cases h3 : Lib.indexByte l u = -1
      · simp [h3]
      · rw [if_neg h3, if_neg h3, if_neg (by omega)]
        congr 1
        omega
theorem cntL_eq (u : UInt8) : ∀ (l : List UInt8) (k : Nat), cntL u.toNat (l.map (fun x : UInt8 => x.toNat)) k = k + Lib.countByte l u
  | [], k => by simp [cntL, Lib.countByte]
  | b :: l, k => by
    show (match Nat.beq b.toNat u.toNat with | true => cntL u.toNat (l.map (fun x : UInt8 => x.toNat)) (Nat.succ k) | false => cntL u.toNat (l.map (fun x : UInt8 => x.toNat)) k) = _
    have hc : Lib.countByte (b :: l) u = Lib.countByte l u + if b = u then 1 else 0 := by
      unfold Lib.countByte
      rw [List.count_cons]
      simp
    rw [hc]
    by_cases h : b = u
    · subst h
      rw [Nat.beq_refl, if_pos rfl]
      show cntL b.toNat (l.map (fun x : UInt8 => x.toNat)) (Nat.succ k) = _
      rw [cntL_eq b l]
      omega
    · have h1 : Nat.beq b.toNat u.toNat = false := by
        cases hb : Nat.beq b.toNat u.toNat with
        | false => rfl
        | true => exact absurd (UInt8.toNat_inj.1 (Nat.eq_of_beq_eq_true hb)) h
      rw [h1, if_neg h]
      show cntL u.toNat (l.map (fun x : UInt8 => x.toNat)) k = _
      rw [cntL_eq u l]
      rfl
theorem find_idx {fn : Func} (h1 : fn.name = "internal/bytealg.IndexByteString") (h2 : fn.origin = "") : Extern.findNext fn = none ∧ Extern.find fn = some Extern.BytealgIndexByte.indexByte := by
  constructor
  · unfold Extern.findNext
    rw [h1, h2]
    dsimp only
    rw [show Extern.allNextRows.lookup "internal/bytealg.IndexByteString" = none from by kernel_rfl, show Extern.allNextRows.lookup "" = none from by kernel_rfl]
    rfl
  · unfold Extern.find
    rw [h1]
    dsimp only
    rw [show Extern.allGenericRows.lookup "internal/bytealg.IndexByteString" = none from by kernel_rfl, show Extern.allTypedRows.lookup "internal/bytealg.IndexByteString" = none from by kernel_rfl, show Extern.allRows.lookup "internal/bytealg.IndexByteString" = some Extern.BytealgIndexByte.indexByte from by kernel_rfl]
    rfl
theorem find_cnt {fn : Func} (h1 : fn.name = "internal/bytealg.CountString") (h2 : fn.origin = "") : Extern.findNext fn = none ∧ Extern.find fn = some Extern.BytealgCount.count := by
  constructor
  · unfold Extern.findNext
    rw [h1, h2]
    dsimp only
    rw [show Extern.allNextRows.lookup "internal/bytealg.CountString" = none from by kernel_rfl, show Extern.allNextRows.lookup "" = none from by kernel_rfl]
    rfl
  · unfold Extern.find
    rw [h1]
    dsimp only
    rw [show Extern.allGenericRows.lookup "internal/bytealg.CountString" = none from by kernel_rfl, show Extern.allTypedRows.lookup "internal/bytealg.CountString" = none from by kernel_rfl, show Extern.allRows.lookup "internal/bytealg.CountString" = some Extern.BytealgCount.count from by kernel_rfl]
    rfl
theorem ext_res (hM : RM w0 g M n w) {f : FuncId} {e : Ext} {xs : List V} {cargs : Array Value} (he : extP P f = some e) (hx : RepL g xs cargs.toList) (h : extB e xs M n K = some r) : ∃ v cv, K v M n = some r ∧ (callFunc f cargs).run P w = .ok (.value cv) w ∧ Rep g v cv := by
  unfold extP at he
  split at he
  · rename_i fn hf
    split at he
    · cases he
    · rename_i hb
      unfold extOf at he
      split at he
      · rename_i ho
        have ho : fn.origin = "" := by simpa using ho
        unfold extB at h
        split at h
        · rename_i l c
          obtain ⟨cs, cc, hc, h1, h2⟩ := hx.inv2
          obtain rfl : cargs = #[cs, cc] := by cases cargs; simp_all
          cases h2
          cases h1 with | @str s _ e1 hs =>
            subst e1
            have hcu : Nat.mod c 256 = ((Int.ofNat c).toNat.toUInt8).toNat := by
              show c % 256 = (c.toUInt8).toNat
              simp [Nat.toUInt8, UInt8.toNat_ofNat]
            split at he
            · rename_i hn
              have hn : fn.name = "internal/bytealg.IndexByteString" := by simpa using hn
              injection he with he; subst he
              obtain ⟨k1, k2⟩ := find_idx hn ho
              have hrun : (callFunc f #[.string s, .int .u8 (Int.ofNat c)]).run P w = .ok (.value (.int .i64 (Lib.indexByte s.data.toList (Int.ofNat c).toNat.toUInt8))) w := by
                rw [run_callFunc_extern hf (by rw [hn]; decide) (by rw [hb]; rfl) k1 k2, Lib.run_indexByteString]
                rfl
              dsimp only at h
              rw [hcu] at h
              unfold natsOf at h
              rw [idxL_eq] at h
              have hge := Lib.indexByte_ge s.data.toList (Int.ofNat c).toNat.toUInt8
              split at h
              · rename_i i hi
                split at hi
                · cases hi
                · rename_i hne
                  injection hi with hi
                  rw [kN_eq] at h
                  refine ⟨_, _, h, hrun, ?_⟩
                  have : (i : Int) = Lib.indexByte s.data.toList (Int.ofNat c).toNat.toUInt8 := by omega
                  rw [← this]; exact .int _ _
              · rename_i hi
                split at hi
                · rename_i heq
                  refine ⟨_, _, h, hrun, ?_⟩
                  rw [heq]; exact .int _ _
                · cases hi
            · split at he
              · rename_i hn
                have hn : fn.name = "internal/bytealg.CountString" := by simpa using hn
                injection he with he; subst he
                obtain ⟨k1, k2⟩ := find_cnt hn ho
                have hrun : (callFunc f #[.string s, .int .u8 (Int.ofNat c)]).run P w = .ok (.value (.int .i64 (Lib.countByte s.data.toList (Int.ofNat c).toNat.toUInt8))) w := by
                  rw [run_callFunc_extern hf (by rw [hn]; decide) (by rw [hb]; rfl) k1 k2, Lib.run_countString]
                  rfl
                dsimp only at h
                rw [hcu] at h
                unfold natsOf at h
                rw [cntL_eq, kN_eq, Nat.zero_add] at h
                exact ⟨_, _, h, hrun, .int _ _⟩
              · cases he
        · cases h
      · cases he
  · cases he
end Go.Eb
