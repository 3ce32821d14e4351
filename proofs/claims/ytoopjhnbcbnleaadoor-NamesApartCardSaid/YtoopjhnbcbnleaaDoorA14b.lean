/-
The evaluator over what a frame has still to do is sound; loops over functions.
-/
import Derived.Test.YtoopjhnbcbnleaaDoorA14
namespace Go.Abs
open Go.RowKit
set_option linter.unusedVariables false
set_option linter.unusedSimpArgs false
set_option linter.unnecessarySimpa false

theorem cell_row {w : World} {b i : Nat} {v : Value} (h : w.cell? ⟨b, i, none⟩ = some v) : ∃ c t f, w.heap[b]? = some (.cells c t f) := by
  unfold World.cell? at h
  split at h
  · rename_i c t f e; exact ⟨c, t, f, e⟩
  · cases h

/-- What a region may write is cells, or a loop's record. -/
theorem fp_row {F : Nat → Prop} {β : Nat → Base} {w : World} {B : Base} {r : Reg} (h : RegOk F β w B r) {b i : Nat} (hf : fp B r b i) : (∃ c t f, w.heap[b]? = some (.cells c t f)) ∨ ∃ q, w.heap[b]? = some (.loop q) := by
  cases r with
  | cells cs =>
    obtain ⟨vs, h1, _, h3⟩ := h
    obtain ⟨rfl, h4, h5⟩ := hf
    have hl := h1.len
    have hlt : i - B.o < vs.length := by omega
    have := (h3 (i - B.o) _ (List.getElem?_eq_getElem hlt)).1
    exact .inl (cell_row this)
  | arr t xs =>
    obtain ⟨hb, rfl, h4, h5⟩ := hf
    have hpos : 0 < B.cap := Nat.pos_of_ne_zero fun e => by rw [e] at h5; simp at h5; omega
    have := (Arr.own h hpos hb (i - B.o) (by omega)).1
    obtain ⟨v, hv⟩ := Option.isSome_iff_exists.1 this
    exact .inl (cell_row hv)
  | own t xs =>
    obtain ⟨hb, rfl, h4, h5⟩ := hf
    have hpos : 0 < B.cap := Nat.pos_of_ne_zero fun e => by rw [e] at h5; simp at h5; omega
    have := (h.1.own hpos hb (i - B.o) (by omega)).1
    obtain ⟨v, hv⟩ := Option.isSome_iff_exists.1 this
    exact .inl (cell_row hv)
  | loop L tm j =>
    obtain ⟨rfl, rfl⟩ := hf
    obtain ⟨q, vs, h⟩ := h
    exact .inr ⟨q, h.row⟩
  | fz t xs => exact hf.elim
  | dead => exact hf.elim

theorem fp_not {F : Nat → Prop} {β : Nat → Base} {w : World} {B : Base} {r : Reg} (h : RegOk F β w B r) {D : Nat} {ds : Option (List Deferred)} (hD : w.heap[D]? = some (.deferred ds)) (i : Nat) : ¬ fp B r D i := fun hf => by
  rcases fp_row h hf with ⟨c, t, f, e⟩ | ⟨q, e⟩
  · rw [hD] at e; cases e
  · rw [hD] at e; cases e

theorem rgOf_snoc (hp : List Reg) (r : Reg) : rgOf (hp ++ [r]) = upd (rgOf hp) hp.length r := by
  funext k
  by_cases h : k = hp.length
  · subst h; simp [rgOf, upd]
  · rw [upd_ne _ _ _ h]
    rcases Nat.lt_or_ge k hp.length with h' | h'
    · simp [rgOf, List.getElem?_append_left h']
    · simp only [rgOf, List.getD_eq_getElem?_getD]
      rw [List.getElem?_eq_none (by simp; omega), List.getElem?_eq_none (by omega)]

theorem rgOf_set {hp : List Reg} {k : Nat} {r : Reg} (h : k < hp.length) : rgOf (hp.set k r) = upd (rgOf hp) k r := by
  funext j
  by_cases e : j = k
  · subst e; simp [rgOf, upd, h]
  · rw [upd_ne _ _ _ e]; simp [rgOf, List.getElem?_set_ne (Ne.symm e)]

theorem lookOp_SR {ds : List Deferred} {F0 : Nat → Prop} {S0 : Nat → Nat → Prop} {w0 : World} {β0 : Nat → Base} {m0 : Nat} {s : St} {F : Nat → Prop} {β : Nat → Base} {a : Act} {w : World} (hI : SR ds F0 S0 w0 β0 m0 s F β a w) (x : Operand) :
    VR F β w (lookOp s.tm [] [] x) (a.eval x) ∧ ∀ k ∈ (lookOp s.tm [] [] x).refs, k < s.hp.length := by
  cases x with
  | tmp i =>
    simp only [lookOp, lookTmp, findRec]
    rcases Nat.lt_or_ge i s.tm.length with hi | hi
    · exact hI.slot i hi
    · rw [show s.tm.getD i .bad = .bad by simp [List.getElem?_eq_none hi]]
      exact ⟨by unfold VR; trivial, fun k hk => by simp [AV.refs] at hk⟩
  | const v =>
    refine ⟨ofConst_sound v, fun k hk => ?_⟩
    simp only [lookOp] at hk
    rw [ofConst_refs] at hk; cases hk
  | func f => exact ⟨by simp only [lookOp]; unfold VR; exact ⟨[], [], rfl, VRs.nil, VRs.nil⟩, fun k hk => by simp [lookOp, AV.refs, refsL] at hk⟩
  | global g => exact ⟨by simp only [lookOp]; unfold VR; trivial, fun k hk => by simp [lookOp, AV.refs] at hk⟩

theorem trim_VRs {F : Nat → Prop} {β : Nat → Base} {w : World} {ks : List Nat} : ∀ {i : Nat} {as : List AV} {us : List Value}, VRs F β w as us → VRs F β w (trim ks i as) us
  | i, [], us, h => by rw [trim]; exact h
  | i, a :: as, us, h => by
    unfold VRs at h
    obtain ⟨u, r, rfl, h1, h2⟩ := h
    rw [trim]
    refine VRs.cons ?_ (trim_VRs h2)
    split
    · exact h1
    · unfold VR; trivial

theorem trim_refs {ks : List Nat} : ∀ {i : Nat} {as : List AV} {k : Nat}, k ∈ refsL (trim ks i as) → k ∈ refsL as
  | i, [], k, h => by rw [trim] at h; exact h
  | i, a :: as, k, h => by
    rw [trim, refsL, List.mem_append] at h
    rw [refsL, List.mem_append]
    rcases h with h | h
    · split at h
      · exact .inl h
      · simp [AV.refs] at h
    · exact .inr (trim_refs h)

theorem VRs.of_slots' {F : Nat → Prop} {β : Nat → Base} {w : World} : ∀ {as : List AV} {us : List Value}, as.length = us.length → (∀ t, t < as.length → VR F β w (as.getD t .bad) (us.getD t undef)) → VRs F β w as us
  | [], us, hl, _ => by
    have : us = [] := List.eq_nil_of_length_eq_zero (by simpa using hl.symm)
    subst this; exact VRs.nil
  | a :: as, [], hl, _ => by simp at hl
  | a :: as, u :: us, hl, h => VRs.cons (by simpa using h 0 (by simp)) (VRs.of_slots' (by simpa using hl) fun t ht => by simpa using h (t + 1) (by simpa using ht))

theorem refsL_of' {k : Nat} : ∀ {as : List AV}, k ∈ refsL as → ∃ t, t < as.length ∧ k ∈ (as.getD t .bad).refs
  | [], h => by simp [refsL] at h
  | a :: as, h => by
    rw [refsL, List.mem_append] at h
    rcases h with h | h
    · exact ⟨0, by simp, by simpa using h⟩
    · obtain ⟨t, h1, h2⟩ := refsL_of' h
      exact ⟨t + 1, by simpa using h1, by simpa using h2⟩

/-- One stretch behind another. -/
theorem Fr.trans {F0 : Nat → Prop} {S0 : Nat → Nat → Prop} {w0 : World} {β0 : Nat → Base} {m0 : Nat} {F F' : Nat → Prop} {β β' : Nat → Base} {rg rg' : Nat → Reg} {w w' : World} {S1 : Nat → Nat → Prop}
    (h : Fr F0 S0 w0 β0 m0 F β rg w) (hS : ∀ b i, S1 b i → S0 b i ∨ w0.heap.size ≤ b) (k : Fr F S1 w β m0 F' β' rg' w') : Fr F0 S0 w0 β0 m0 F' β' rg' w' where
  chg := h.chg.trans' k.chg hS
  f0 := fun b hb => k.f0 b (h.f0 b hb)
  f1 := fun b hb => by
    rcases k.f1 b hb with h1 | ⟨i, h1⟩ | h1
    · exact h.f1 b h1
    · rcases hS b i h1 with h2 | h2
      · exact .inr (.inl ⟨i, h2⟩)
      · exact .inr (.inr h2)
    · exact .inr (.inr (Nat.le_trans h.chg.size h1))
  own := fun k' b i hf => by
    rcases k.own k' b i hf with h1 | h1
    · exact hS b i h1
    · exact .inr (Nat.le_trans h.chg.size h1)
  bt := fun j hj => (k.bt j hj).trans (h.bt j hj)

section
variable {P : Program} {S : Sums} {rd : Option Nat} {m : Nat} {fin : Option Code → St → Prop} {cuts : List (Nat × Cut)}

/-- A loop over a function. -/
theorem rangeFunc_sound (hS : SumsOk P S) {f : Operand} {ps : Array Tmp} {assign body : Code} {s s' : St} {obs : List Prop} {j : Int} {todo : List Item}
    (h : rfCall S (lookOp s.tm [] [] f) ps assign body s = some (obs, s', j)) (hob : ∀ p ∈ obs, p) (k : RunS P none m fin (((jumpOf j).map Item.code).toList ++ todo) s') : RunS P none m fin (.code (.rangeFunc f ps assign body) :: todo) s := by
  intro hrd ds F0 S0 w0 β0 F β a w hI b cs hb
  have hlook := lookOp_SR hI f
  unfold rfCall at h
  split at h
  rotate_left
  · cases h
  rename_i g first caps hf
  rw [hf] at hlook
  split at h
  · cases h
  rename_i hg
  dsimp only at h
  split at h
  rotate_left
  · cases h
  rename_i out hout
  split at h
  rotate_left
  · cases h
  rename_i hkeys
  split at h
  rotate_left
  · cases h
  rename_i L3 tm3 j3 hreg3
  simp only [Option.some.injEq, Prod.mk.injEq] at h
  obtain ⟨rfl, rfl, rfl⟩ := h
  have hobs : ∀ p ∈ out.ob, p := fun p hp => hob p (List.mem_append_left _ hp)
  have hj3 : j3 ≠ -1 := hob _ (List.mem_append_right _ (List.mem_singleton.2 rfl))
  generalize hn : s.hp.length = n at *
  -- the function's value
  obtain ⟨hfv, hfr⟩ := hlook
  unfold VR at hfv
  obtain ⟨x, y, hfe, hx, hy⟩ := hfv
  -- the loop's record is laid
  let D := w.heap.size
  let l := w.heap.size + 1
  let rc : Loop := { state := .ready, pending := none, fn := b.fn, tmps := a.tmps, params := ps, assign, body, defers := D }
  let w1 : World := (w.alloc (.deferred (some []))).alloc (.loop rc)
  have hw0 : Chg (fun _ _ => False) w (w.alloc (.deferred (some []))) := Chg.of_below ((Below.refl _ w).alloc (Nat.le_refl _) _)
  have hw1 : Chg (fun _ _ => False) (w.alloc (.deferred (some []))) w1 := Chg.of_below ((Below.refl _ _).alloc (Nat.le_refl _) _)
  have hc1 : Chg (fun _ _ => False) w w1 := hw0.trans hw1
  have hsz1 : (w.alloc (.deferred (some []))).heap.size = l := by simp [World.size_alloc, l]
  have hrow1 : w1.heap[l]? = some (.loop rc) := by
    have := World.alloc_heap_new (w.alloc (.deferred (some []))) (.loop rc)
    rw [hsz1] at this; exact this
  have hD1 : w1.heap[D]? = some (.deferred (some [])) := by
    rw [hw1.block D (by rw [hsz1]; exact Nat.lt_succ_self _) fun _ h => h]
    exact World.alloc_heap_new w _
  have henter : (Instr.enterLoop b.fn a.tmps ps assign body b.roundOf).run P w = .ok (l, [markOf D]) w1 := by
    rw [hb]; exact run_enterLoop_outer _ _ _ _ _
  let B : Base := { b := l, o := 0 }
  let β1 := upd β n B
  have β1old : ∀ k, k < n → β1 k = β k := fun k hk => upd_ne _ _ _ (by omega)
  let tm' := trim (usedIn assign ++ usedIn body) 0 s.tm
  have hsame1 : Same F w w1 := hI.inv.same hc1 fun _ _ h => h.elim
  have hslots : VRs F β w s.tm a.tmps.toList := VRs.of_slots' (by simpa using hI.size.symm) fun t ht => by
    have := (hI.slot t ht).1
    simpa using this
  have hslr : ∀ k ∈ refsL s.tm, k < n := fun k hk => by
    obtain ⟨t, h1, h2⟩ := refsL_of' hk
    have := (hI.slot t h1).2 k h2
    omega
  have hreg : RegOk F β1 w1 (β1 n) (.loop ⟨ps, assign, body, (firstReg body).getD 0⟩ tm' 0) := by
    refine ⟨rc, a.tmps.toList, ?_, by simp [rc], ?_, rfl, rfl, rfl, fun h => absurd h (by decide), fun _ => ⟨rfl, rfl⟩⟩
    · show w1.heap[(upd β n B n).b]? = _
      rw [upd_same]; exact hrow1
    · exact trim_VRs (hslots.mono (fun _ h => h) hsame1 fun k hk => β1old k (hslr k hk))
  have hinv1 : Inv F β1 (fun k => k < n ∨ k = n) (upd (rgOf s.hp) n (.loop ⟨ps, assign, body, (firstReg body).getD 0⟩ tm' 0)) w1 := by
    have hI0 := hI.inv.keep hw0
    rw [hn] at hI0
    refine hI0.fresh hw1 (by omega) (by have := hreg; rw [show β1 n = B from upd_same β n B] at this; exact this) (fun b' i hf' => ?_) fun k hk => ?_
    · obtain ⟨rfl, _⟩ := hf'; rw [hsz1]; exact Nat.le_refl _
    · exact .inl (hslr k (trim_refs hk))
  have hlen1 : (s.hp ++ [Reg.loop ⟨ps, assign, body, (firstReg body).getD 0⟩ tm' 0]).length = n + 1 := by simp [hn]
  have hrg1 : rgOf (s.hp ++ [Reg.loop ⟨ps, assign, body, (firstReg body).getD 0⟩ tm' 0]) = upd (rgOf s.hp) n (.loop ⟨ps, assign, body, (firstReg body).getD 0⟩ tm' 0) := by rw [rgOf_snoc, hn]
  rw [show trim (usedIn assign ++ usedIn body) 0 s.tm = tm' from rfl] at hout hreg3 hkeys k
  generalize hhp1 : s.hp ++ [Reg.loop ⟨ps, assign, body, (firstReg body).getD 0⟩ tm' 0] = hp1 at *
  rw [← hrg1] at hinv1
  have hval1 : ∀ {as : List AV} {us : List Value}, VRs F β w as us → (∀ k ∈ refsL as, k < n) → VRs F β1 w1 as us := fun hv hr => hv.mono (fun _ h => h) hsame1 fun k hk => β1old k (hr k hk)
  have hfirst : ∀ k ∈ refsL first, k < n := fun k hk => hfr k (by simp [AV.refs, hk])
  have hcaps : ∀ k ∈ refsL caps, k < n := fun k hk => hfr k (by simp [AV.refs, hk])
  have hyl : VRs F β1 w1 [.yld n] [Value.func (.yield l) #[] #[]] := VRs.cons (by unfold VR; show _ = Value.func (.yield (upd β n B n).b) #[] #[]; rw [upd_same]) VRs.nil
  have hargs := ((hval1 hx hfirst).append hyl).append (hval1 hy hcaps)
  have hcall := evCallArgs_sound (F := F) (β := β1) (al := fun k => k < n ∨ k = n) (rg := rgOf hp1) (w := w1) hS hout
  have hrun := hcall.1 hg (x ++ [Value.func (.yield l) #[] #[]] ++ y).toArray w1
  have hC := (CallsT.fn hg).1 (hcall.2 hobs _ hinv1 (fun _ _ => rfl) (fun k h1 h2 => by rw [hlen1] at h1; omega) (fun k hk => by
    simp only [refsL_append, refsL, AV.refs, List.mem_append] at hk
    rcases hk with (hk | hk) | hk
    · exact .inl (hfirst k hk)
    · exact .inr (by simpa using hk)
    · exact .inl (hcaps k hk)) hargs)
  -- the function runs
  let a4 : Act := { a with defers := markOf D :: a.defers }
  let c : Frame := b.atR a4 (.inRangeFunc l :: todo)
  obtain ⟨e, w3, fr, ⟨u, F', β', rfl, hst⟩, hcomes, hfn, hleave⟩ := hC (c :: cs)
  have hres : (resolve a.eval (rangeCall f l) 0).run P w1 = .ok { target := .fn (.func g) y.toArray, args := x.toArray ++ #[Value.func (.yield l) #[] #[]] } w1 := by
    show (Deferred.ofValue (a.eval f) (#[Operand.const (Value.func (.yield l) #[] #[])].map a.eval)).run P w1 = _
    rw [hfe]
    simp [Deferred.ofValue]
    rfl
  have hinv : (invoke (.fn (.func g) y.toArray) (x.toArray ++ #[Value.func (.yield l) #[] #[]])).run P w1 = .ok (.enter g (x ++ [Value.func (.yield l) #[] #[]] ++ y).toArray) w1 := by
    have e3 : x.toArray ++ #[Value.func (.yield l) #[] #[]] ++ y.toArray = (x ++ [Value.func (.yield l) #[] #[]] ++ y).toArray := by apply Array.ext'; simp
    simp only [invoke, e3]; exact hrun
  have hstep1 := stepR_rangeFunc (P := P) (b := b) (a := a) (k := todo) (cs := cs) (w := w) henter hres hinv
  have hback : Steps P (lone (b.atR a (.code (.rangeFunc f ps assign body) :: todo)) cs w) (lone (b.atR a4 (.endRangeFunc l :: todo)) cs w3) := by
    refine .head hstep1 (Steps.trans hcomes (.one ?_))
    rw [← finish_atR_inRangeFunc l u]; exact step_leave_returned hleave
  -- the record behind it
  have hsetr := rgOf_setRegs out.wr hp1
  have hr3 := hst.inv.ok n
  rw [← hsetr, hreg3] at hr3
  have hbn : β' n = B := (hst.bt n (.inr rfl)).trans (upd_same ..)
  rw [hbn] at hr3
  obtain ⟨r3, vs3, hr3⟩ := hr3
  have hr3row : w3.heap[l]? = some (.loop r3) := hr3.row
  obtain ⟨hstate, hpend⟩ := hr3.rest hj3
  have hnb : r3.state ≠ .busy := by rw [hstate]; split <;> simp
  let w4 : World := w3.putObj l (.loop { r3 with state := .exhausted })
  have hend : (Instr.endLoop l).run P w3 = .ok (jumpOf j3) w4 := by rw [← hpend]; exact run_endLoop hr3row hnb
  have hstep4 := stepR_endRangeFunc (P := P) (b := b) (a := a4) (k := todo) (cs := cs) hend
  -- the state behind it
  let hp4 := (setRegs hp1 out.wr).set n .dead
  have hlen3 := setRegs_len out.wr hp1
  have hn3 : n < (setRegs hp1 out.wr).length := by omega
  have hlen4 : hp4.length = (setRegs hp1 out.wr).length := by simp [hp4]
  have hrg4 : rgOf hp4 = upd (setAll (rgOf hp1) out.wr) n .dead := by rw [rgOf_set hn3, hsetr]
  have hc4 : Chg (fun b' i => b' = l ∧ i = 0) w3 w4 := chg_putObj hr3row (fun _ _ _ h => by cases h) (fun _ _ _ h => by cases h)
  have hinv4 : Inv F' β' (fun k => k < hp4.length) (rgOf hp4) w4 := by
    rw [hrg4]
    refine (hst.inv.turn (k := n) (r := .dead) ?_ trivial (fun _ _ h => h.elim) (fun j hj => by simp [Reg.refs] at hj) (.inl (.inr rfl))).al_ext fun k hk => ?_
    · refine hc4.mono fun b' i _ h => ?_
      rw [← hsetr, hreg3, hbn]
      exact h
    · rw [hlen4]
      rcases hk with (hk | hk) | hk
      · omega
      · omega
      · exact hlen3.2 k hk
  have hsame3 : Same F w w4 := by
    intro b' i hF v hv
    have h1 := hsame1 b' i hF v hv
    have h2 := hinv1.same hst.chg (fun b i ⟨k, _, hf⟩ => ⟨k, hf⟩) b' i hF v h1
    have h3 := (cell_putObj (o' := .loop { r3 with state := .exhausted }) hr3row (fun _ _ _ h => by cases h) (fun _ _ _ h => by cases h) b' i).1
    show w4.cell? _ = _
    rw [h3]; exact h2
  have hD3 : w3.heap[D]? = some (.deferred (some [])) := by
    rw [hst.chg.block D (by have := (Array.getElem?_eq_some_iff.1 hD1).1; exact this) fun i ⟨k, _, hf⟩ => fp_not (hinv1.ok k) hD1 i hf]
    exact hD1
  have hD4 : w4.heap[D]? = some (.deferred (some [])) := by
    show (w3.putObj l _).heap[D]? = _
    rw [World.putObj_heap_other (show D ≠ l by simp only [D, l]; omega)]; exact hD3
  let S4 : Nat → Nat → Prop := fun b i => ∃ k, fp (β' k) (rgOf hp4 k) b i
  have hSR4 : SR (markOf D :: ds) F' S4 w4 β' m { tm := s.tm, hp := hp4 } F' β' a4 w4 := by
    refine ⟨hinv4, ⟨Chg.refl _ _, fun _ h => h, fun _ h => .inl h, fun k b i hf => .inl ⟨k, hf⟩, fun _ _ => rfl⟩, hI.size, by simp only [a4, hI.ds], by rw [hlen4]; have := hI.mle; omega, fun t ht => ?_⟩
    have := hI.slot t ht
    refine ⟨this.1.mono hst.f hsame3 fun k hk => ?_, fun k hk => ?_⟩
    · have hk' := this.2 k hk
      rw [hn] at hk'
      exact (hst.bt k (.inl hk')).trans (β1old k hk')
    · have hk' := this.2 k hk
      rw [hlen4]; omega
  obtain ⟨j, a5, w5, todo5, ⟨s5, F5, β5, ms, hSR5, hM5, hfin5⟩, hlv, hsteps⟩ := k hrd (markOf D :: ds) F' S4 w4 β' F' β' a4 w4 hSR4 b cs hb
  refine ⟨j, a5, w5, todo5, ⟨s5, F5, β5, ms ++ [D], ?_, ?_, hfin5⟩, hlv, Steps.trans hback (.head hstep4 hsteps)⟩
  · -- as seen from the frame's beginning
    have frI : Fr F0 S0 w0 β0 m F' β' (rgOf hp4) w4 := by
      have hsz : w.heap.size ≤ w1.heap.size := hc1.size
      have ownall : ∀ k b' i, fp (β1 k) (rgOf hp1 k) b' i → S0 b' i ∨ w0.heap.size ≤ b' := fun k b' i hf' => by
        rw [hrg1] at hf'
        by_cases hk : k = n
        · rw [hk, upd_same] at hf'
          have hf' : b' = (upd β n B n).b ∧ i = 0 := hf'
          rw [upd_same] at hf'
          obtain ⟨rfl, _⟩ := hf'
          have := hI.fr.chg.size
          exact .inr (by simp only [B, l]; omega)
        · rw [upd_ne _ _ _ hk, show β1 k = β k from upd_ne _ _ _ hk] at hf'
          exact hI.fr.own k b' i hf'
      have hchg3 : Chg S0 w0 w3 := (hI.fr.chg.trans' hc1 fun _ _ h => h.elim).trans' hst.chg fun b' i ⟨k, _, hf'⟩ => ownall k b' i hf'
      have hl0 : w0.heap.size ≤ l := by have := hI.fr.chg.size; simp only [l]; omega
      refine ⟨hchg3.trans' hc4 fun b' i ⟨e1, _⟩ => .inr (by rw [e1]; exact hl0), fun b' hb' => hst.f b' (hI.fr.f0 b' hb'), fun b' hb' => ?_, fun k b' i hf' => ?_, fun k hk => ?_⟩
      · rcases hst.nf b' hb' with h1 | ⟨k, i, h1⟩ | h1
        · exact hI.fr.f1 b' h1
        · rcases ownall k b' i h1 with h2 | h2
          · exact .inr (.inl ⟨i, h2⟩)
          · exact .inr (.inr h2)
        · have := hI.fr.chg.size
          exact .inr (.inr (by omega))
      · rw [hrg4] at hf'
        by_cases hk : k = n
        · rw [hk, upd_same] at hf'; exact hf'.elim
        · rw [upd_ne _ _ _ hk] at hf'
          rcases hst.own k b' i hf' with ⟨k', h1⟩ | h1
          · exact ownall k' b' i h1
          · have := hI.fr.chg.size
            exact .inr (by omega)
      · have hk' : k < n := by have := hI.mle; omega
        exact (hst.bt k (.inl hk')).trans ((β1old k hk').trans (hI.fr.bt k hk))
    have := hSR5.ds
    refine ⟨hSR5.inv, frI.trans (fun b' i ⟨k, hf'⟩ => frI.own k b' i hf') hSR5.fr, hSR5.size, by rw [this]; simp, hSR5.mle, hSR5.slot⟩
  · have hDlt : D < w4.heap.size := (Array.getElem?_eq_some_iff.1 hD4).1
    have hw0le : w0.heap.size ≤ w.heap.size := hI.fr.chg.size
    have h04 : w0.heap.size ≤ w4.heap.size := by simp only [D] at hDlt; omega
    refine ⟨fun D' hD' => ?_, fun D' hD' => ?_, ?_⟩
    · rcases List.mem_append.1 hD' with h | h
      · exact hM5.row D' h
      · obtain rfl := List.mem_singleton.1 h
        rw [hSR5.fr.chg.block D hDlt fun i ⟨k, hf'⟩ => fp_not (hinv4.ok k) hD4 i hf']
        exact hD4
    · rcases List.mem_append.1 hD' with h | h
      · have := hM5.new D' h; omega
      · obtain rfl := List.mem_singleton.1 h; exact hw0le
    · rw [List.nodup_append]
      refine ⟨hM5.nodup, by simp, fun d1 h1 d2 h2 e => ?_⟩
      obtain rfl := List.mem_singleton.1 h2
      have := hM5.new d1 h1
      omega
/-- Region k turned in place. -/
theorem SR.turn {ds : List Deferred} {F0 : Nat → Prop} {S0 : Nat → Nat → Prop} {w0 : World} {β0 : Nat → Base} {m0 : Nat} {s : St} {F : Nat → Prop} {β : Nat → Base} {a : Act} {w w' : World} (hI : SR ds F0 S0 w0 β0 m0 s F β a w) {k : Nat} {r : Reg} (hk : k < s.hp.length)
    (hc : Chg (fp (β k) (rgOf s.hp k)) w w') (hr : RegOk F β w' (β k) r) (hf : ∀ b i, fp (β k) r b i → fp (β k) (rgOf s.hp k) b i) (hrf : ∀ j ∈ r.refs, j < s.hp.length) : SR ds F0 S0 w0 β0 m0 { s with hp := s.hp.set k r } F β a w' := by
  have e : rgOf (s.hp.set k r) = upd (rgOf s.hp) k r := rgOf_set hk
  have el : (s.hp.set k r).length = s.hp.length := by simp
  have hs : Same F w w' := hI.inv.same hc fun b i h => ⟨k, h⟩
  refine ⟨?_, ⟨hI.fr.chg.trans' hc fun b i h => hI.fr.own k b i h, hI.fr.f0, hI.fr.f1, fun j b i h => ?_, hI.fr.bt⟩, hI.size, hI.ds, by rw [el]; exact hI.mle, fun t ht => ?_⟩
  · show Inv F β (fun k' => k' < (s.hp.set k r).length) (rgOf (s.hp.set k r)) w'
    rw [e, el]
    exact hI.inv.turn hc hr hf hrf hk
  · rw [e] at h
    by_cases hj : j = k
    · subst hj; rw [upd_same] at h; exact hI.fr.own j b i (hf b i h)
    · rw [upd_ne _ _ _ hj] at h; exact hI.fr.own j b i h
  · have := hI.slot t ht
    rw [el]
    exact ⟨this.1.mono (fun _ h => h) hs fun _ _ => rfl, this.2⟩

theorem loop_turn {F : Nat → Prop} {β : Nat → Base} {w : World} {B : Base} {L : LoopS} {tm : List AV} {j j' : Int} {r r' : Loop} {vs : List Value} (h : LoopOk F β w B L tm j r vs) (hs : Same F w (w.putObj B.b (.loop r'))) (h1 : r'.tmps = r.tmps) (h2 : r'.params = r.params) (h3 : r'.assign = r.assign) (h4 : r'.body = r.body)
    (h5 : j' = -1 → r'.state = .busy) (h6 : j' ≠ -1 → r'.state = (if j' = 0 then .ready else .done) ∧ r'.pending = jumpOf j') : LoopOk F β (w.putObj B.b (.loop r')) B L tm j' r' vs where
  row := World.putObj_heap_same (Array.getElem?_eq_some_iff.1 h.row).1
  tmps := h1.trans h.tmps
  vals := h.vals.mono (fun _ h => h) hs fun _ _ => rfl
  params := h2.trans h.params
  assign := h3.trans h.assign
  body := h4.trans h.body
  busy := h5
  rest := h6

/-- A new array of no new memory. -/
theorem SR.fresh {ds : List Deferred} {F0 : Nat → Prop} {S0 : Nat → Nat → Prop} {w0 : World} {β0 : Nat → Base} {m0 : Nat} {s : St} {F : Nat → Prop} {β : Nat → Base} {a : Act} {w : World} (hI : SR ds F0 S0 w0 β0 m0 s F β a w) {B : Base} {r : Reg}
    (hr : RegOk F (upd β s.hp.length B) w B r) (hf : ∀ b i, ¬ fp B r b i) (hrf : r.refs = []) : SR ds F0 S0 w0 β0 m0 { s with hp := s.hp ++ [r] } F (upd β s.hp.length B) a w := by
  have e := rgOf_snoc s.hp r
  have el : (s.hp ++ [r]).length = s.hp.length + 1 := by simp
  have old : ∀ k, k < s.hp.length → upd β s.hp.length B k = β k := fun k hk => upd_ne _ _ _ (by omega)
  refine ⟨?_, ⟨hI.fr.chg, hI.fr.f0, hI.fr.f1, fun j b i h => ?_, fun k hk => ?_⟩, hI.size, hI.ds, by rw [el]; have := hI.mle; omega, fun t ht => ?_⟩
  · show Inv F _ (fun k' => k' < (s.hp ++ [r]).length) (rgOf (s.hp ++ [r])) w
    rw [e, el]
    exact (hI.inv.fresh (Chg.refl _ w) (nk := s.hp.length) (by omega) hr (fun b i h => absurd h (hf b i)) (fun j hj => by rw [hrf] at hj; cases hj)).al_ext fun k hk => by rcases hk with hk | hk <;> omega
  · rw [e] at h
    by_cases hj : j = s.hp.length
    · rw [hj, upd_same, upd_same] at h; exact absurd h (hf b i)
    · rw [upd_ne _ _ _ hj, upd_ne _ _ _ hj] at h; exact hI.fr.own j b i h
  · rw [old k (by have := hI.mle; omega)]; exact hI.fr.bt k hk
  · have := hI.slot t ht
    rw [el]
    exact ⟨this.1.mono (fun _ h => h) (fun _ _ _ _ h => h) fun k hk => old k (this.2 k hk), fun k hk => by have := this.2 k hk; omega⟩

theorem refsL_mid {p r : List AV} {c : AV} {k : Nat} : k ∈ refsL (p ++ c :: r) ↔ k ∈ refsL p ∨ k ∈ c.refs ∨ k ∈ refsL r := by
  rw [refsL_append, refsL]; simp only [List.mem_append]

theorem thaw_cell {ds : List Deferred} {F0 : Nat → Prop} {S0 : Nat → Nat → Prop} {w0 : World} {β0 : Nat → Base} {m0 : Nat} {s : St} {F : Nat → Prop} {β : Nat → Base} {a : Act} {w : World} (hI : SR ds F0 S0 w0 β0 m0 s F β a w) {k o : Nat} {cs p r : List AV} {c : AV} (hd : c.isDat = false)
    (hk : rgOf s.hp k = .cells cs) (hsp : split 200 cs o = some (p, c :: r)) {g : Reg} (hgr : g.refs = [])
    (hc : ∀ u, VR F β w c u → ∃ B, RegOk F (upd β s.hp.length B) w B g ∧ (∀ b i, ¬ fp B g b i) ∧ u = .slice B.A B.len B.cap) :
    ∃ β', SR ds F0 S0 w0 β0 m0 { s with hp := (s.hp ++ [g]).set k (Reg.cells (p ++ AV.arr s.hp.length :: r)) } F β' a w := by
  have hkl : k < s.hp.length := by
    rcases Nat.lt_or_ge k s.hp.length with h | h
    · exact h
    · rw [show rgOf s.hp k = .dead by simp [rgOf, List.getElem?_eq_none h]] at hk; cases hk
  have hok := hI.inv.ok k
  rw [hk] at hok
  obtain ⟨vs, h1, h2, h3⟩ := hok
  obtain ⟨x, y, rfl, hxl, hp', hy⟩ := CRs.split hsp h1
  obtain ⟨u, y', rfl, ho, hu, hr'⟩ := (CRs.oneCons hd).1 hy
  obtain ⟨B, hB1, hB2, hB3⟩ := hc u hu
  have hS := hI.fresh hB1 hB2 hgr
  refine ⟨_, hS.turn (k := k) (r := Reg.cells (p ++ AV.arr s.hp.length :: r)) (by simp; omega) (Chg.refl _ w) ?_ ?_ ?_⟩
  · have old : ∀ j ∈ refsL cs, upd β s.hp.length B j = β j := fun j hj => by
      have : j < s.hp.length := hI.inv.sc k j (by rw [hk]; exact hj)
      exact upd_ne _ _ _ (by omega)
    have hsr := fun j h => split_refs hsp j h
    refine ⟨x ++ u :: y', CRs.append.2 ⟨x, u :: y', rfl, hp'.mono (fun _ h => h) (fun _ _ _ _ h => h) fun j hj => old j (hsr j (.inl hj)), (CRs.oneCons rfl).2 ⟨u, y', rfl, ho, ?_, hr'.mono (fun _ h => h) (fun _ _ _ _ h => h) fun j hj => old j (hsr j (.inr (by rw [refsL, List.mem_append]; exact .inr hj)))⟩⟩, ?_, ?_⟩
    · unfold VR
      rw [upd_same]; exact hB3
    · rw [upd_ne _ _ _ (by omega)]; exact h2
    · intro i v hi
      rw [upd_ne _ _ _ (by omega)]; exact h3 i v hi
  · intro b i hf
    have hne : k ≠ s.hp.length := by omega
    have e0 : rgOf (s.hp ++ [g]) k = .cells cs := by rw [rgOf_snoc, upd_ne _ _ _ hne, hk]
    show fp _ (rgOf (s.hp ++ [g]) k) b i
    rw [e0]
    obtain ⟨e1, e2, e3⟩ := hf
    refine ⟨e1, e2, ?_⟩
    have l1 := h1.len
    have l2 := (CRs.append.2 ⟨x, u :: y', rfl, hp', hy⟩).len
    rw [← l1]
    have w1 : wAll (p ++ AV.arr s.hp.length :: r) = wAll (p ++ c :: r) := by
      have : ∀ p : List AV, wAll (p ++ AV.arr s.hp.length :: r) = wAll (p ++ c :: r) := by
        intro p
        induction p with
        | nil => simp only [List.nil_append, wAll]; cases c <;> first | rfl | (simp [AV.isDat] at hd)
        | cons q p ih => simp only [List.cons_append, wAll, ih]
      exact this p
    rw [w1, ← l2] at e3
    exact e3
  · intro j hj
    simp only [List.length_append, List.length_singleton]
    have hj' : j ∈ refsL (p ++ AV.arr s.hp.length :: r) := hj
    rw [refsL_mid] at hj'
    have hcs : ∀ j ∈ refsL cs, j < s.hp.length := fun j h => hI.inv.sc k j (by rw [hk]; exact h)
    rcases hj' with h | h | h
    · have := hcs j (split_refs hsp j (.inl h)); omega
    · simp [AV.refs] at h; omega
    · have := hcs j (split_refs hsp j (.inr (by rw [refsL, List.mem_append]; exact .inr h))); omega

theorem thaw1_sound {ds : List Deferred} {F0 : Nat → Prop} {S0 : Nat → Nat → Prop} {w0 : World} {β0 : Nat → Base} {m0 : Nat} {s : St} {F : Nat → Prop} {β : Nat → Base} {a : Act} {w : World} (hI : SR ds F0 S0 w0 β0 m0 s F β a w) (k o : Nat) (t : Ty) : ∃ β', SR ds F0 S0 w0 β0 m0 (thaw1 s k o t) F β' a w := by
  have nilB : ∀ (A : Option Addr), ∃ B : Base, RegOk F (upd β s.hp.length B) w B (.own t []) ∧ (∀ b i, ¬ fp B (.own t []) b i) ∧ Value.slice A 0 0 = .slice B.A B.len B.cap := fun A =>
    ⟨{ b := 0, o := 0, s := t.nc, len := 0, cap := 0, A := A }, ⟨⟨rfl, rfl, Nat.le_refl _, Nat.zero_le _, fun h => absurd h (Nat.lt_irrefl _), fun h => absurd h (Nat.lt_irrefl _), fun h => absurd h (Nat.lt_irrefl _), fun h => absurd h (Nat.lt_irrefl _), fun h => absurd h (Nat.lt_irrefl _)⟩, rfl⟩,
      fun b i hf => by obtain ⟨_, _, h1, h2⟩ := hf; simp at h2, rfl⟩
  unfold thaw1
  split
  · rename_i cs hk
    split
    · rename_i p t' xs r hsp
      split
      · exact thaw_cell hI rfl hk hsp rfl fun u hu => by
          unfold VR at hu
          obtain ⟨A, rfl, hrd⟩ := hu
          refine ⟨fullBase t'.nc (.slice A xs.length xs.length), full_arr hI.inv.ff hrd, fun b i hf => ?_, ?_⟩
          · obtain ⟨h1, _⟩ := hf
            cases A <;> simp [fullBase] at h1
          · cases A <;> rfl
      · exact ⟨β, hI⟩
    · rename_i p r hsp
      exact thaw_cell hI rfl hk hsp rfl fun u hu => by
        unfold VR at hu; rw [hu.1]; exact nilB none
    · rename_i p r hsp
      exact thaw_cell hI rfl hk hsp rfl fun u hu => by
        unfold VR at hu
        obtain ⟨A, rfl⟩ := hu
        exact nilB A
    · exact ⟨β, hI⟩
  · exact ⟨β, hI⟩

theorem thaw_sound {ds : List Deferred} {F0 : Nat → Prop} {S0 : Nat → Nat → Prop} {w0 : World} {β0 : Nat → Base} {m0 : Nat} {F : Nat → Prop} {a : Act} {w : World} : ∀ {l : List (Nat × Nat × Ty)} {s : St} {β : Nat → Base}, SR ds F0 S0 w0 β0 m0 s F β a w → ∃ β', SR ds F0 S0 w0 β0 m0 (thaw s l) F β' a w
  | [], s, β, h => ⟨β, h⟩
  | (k, o, t) :: l, s, β, h => by
    obtain ⟨β', h'⟩ := thaw1_sound h k o t
    exact thaw_sound (l := l) h'

theorem thaw1_tm (s : St) (k o : Nat) (t : Ty) : (thaw1 s k o t).tm = s.tm := by
  unfold thaw1
  split
  · split
    · split <;> rfl
    · rfl
    · rfl
    · rfl
  · rfl

theorem thaw_tm : ∀ {l : List (Nat × Nat × Ty)} {s : St}, (thaw s l).tm = s.tm
  | [], s => rfl
  | (k, o, t) :: l, s => by rw [thaw, thaw_tm, thaw1_tm]

theorem rfTry_sound (hS : SumsOk P S) {f : Operand} {ps : Array Tmp} {assign body : Code} {s s' : St} {obs : List Prop} {j : Int} {todo : List Item}
    (h : rfTry P S (lookOp s.tm [] [] f) ps assign body s = some (obs, s', j)) (hob : ∀ p ∈ obs, p) (k : RunS P none m fin (((jumpOf j).map Item.code).toList ++ todo) s') : RunS P none m fin (.code (.rangeFunc f ps assign body) :: todo) s := by
  unfold rfTry at h
  split at h
  · rename_i x hx
    obtain rfl := Option.some.inj h
    exact rangeFunc_sound hS hx hob k
  · intro hrd ds F0 S0 w0 β0 F β a w hI
    obtain ⟨β', hI'⟩ := thaw_sound (l := appCells P s.tm (opsIn body) (opsIn body)) hI
    have := rangeFunc_sound (todo := todo) (f := f) hS (by rw [thaw_tm]; exact h) hob k
    exact this hrd ds F0 S0 w0 β0 F β' a w hI'

theorem run_sound (hS : SumsOk P S) (hmix : P.follows .mixedOrders = true) : ∀ (n : Nat) (todo : List Item) (s : St), run P S rd m fin (RunS P rd m fin) cuts n todo s → RunS P rd m fin todo s
  | 0, _, _, h => h.elim
  | n + 1, todo, s, h => by
    have ih := run_sound hS hmix n
    unfold run at h
    split at h
    · exact fun hrd ds F0 S0 w0 β0 F β a w hI => RunW.leave (.now hI h) rfl
    · rename_i c k
      split at h
      · exact RunS.step (fun a w b cs => stepR_skip) (ih _ _ h)
      · exact RunS.step (fun a w b cs => stepR_label) (ih _ _ h)
      · rename_i id ops draw
        split at h
        · rename_i s' obs hev
          obtain ⟨h1, h2⟩ := conj_all h
          intro hrd ds F0 S0 w0 β0 F β a w hI
          refine RunW.of_wp (evRegion_sound hS hmix hev h1 hI fun a' w' F' β' hI' => ⟨rfl, ih _ _ h2 hrd ds F0 S0 w0 β0 F' β' a' w' hI'⟩)
        · split at h
          · rename_i d1 d2 v neg e hnil
            exact fun hrd ds F0 S0 w0 β0 F β a w hI => RunW.of_wp (nilRegion_sound hnil hI fun b hb a' hI' => ⟨rfl, ih _ _ (h b hb) hrd ds F0 S0 w0 β0 F β a' w hI'⟩)
          · split at h
            · rename_i s' obs hev
              obtain ⟨h1, h2⟩ := conj_all h
              intro hrd ds F0 S0 w0 β0 F β a w hI
              obtain ⟨F1, hI1⟩ := hI.freeze m
              exact RunW.of_wp (evRegion_sound hS hmix hev h1 hI1 fun a' w' F' β' hI' => ⟨rfl, ih _ _ h2 hrd ds F0 S0 w0 β0 F' β' a' w' hI'⟩)
            · exact h.elim
      · exact RunS.step (fun a w b cs => stepR_seq) (ih _ _ h)
      · rename_i x c1 c2
        split at h
        · rename_i t hl
          intro hrd ds F0 S0 w0 β0 F β a w hI
          have hc : a.eval x = .bool t := by
            have := (lookOp_SR hI x).1
            rw [hl] at this
            exact bool_val this
          cases t with
          | true => exact RunW.step1 (fun b cs => stepR_cond hc) (ih _ _ h hrd ds F0 S0 w0 β0 F β a w (hI.known hc))
          | false => exact RunW.step1 (fun b cs => stepR_cond hc) (ih _ _ h hrd ds F0 S0 w0 β0 F β a w (hI.known hc))
        · exact h.elim
      · exact RunS.step (fun a w b cs => stepR_block) (ih _ _ h)
      · exact RunS.step (fun a w b cs => stepR_loop) (atCut_sound h)
      · rename_i id
        split at h
        · rename_i k' hk
          exact RunS.step (fun a w b cs => stepR_exit hk) (ih _ _ h)
        · rename_i hk
          exact fun hrd ds F0 S0 w0 β0 F β a w hI => RunW.leave (.now hI h) ⟨k, rfl, hk⟩
      · exact fun hrd ds F0 S0 w0 β0 F β a w hI => RunW.leave (.now hI h) ⟨k, rfl⟩
      · rename_i f ps assign body
        split at h
        · exact h.elim
        split at h
        · rename_i obs s' j hrf
          obtain ⟨h1, h2⟩ := conj_all h
          refine rfTry_sound hS hrf h1 ?_
          have key : ∀ (cs : List Int), cs.foldr (fun c r => match jumpOf c with | some code => bif j == c then run P S none m fin (RunS P none m fin) cuts n (.code code :: k) s' else r | none => r) (j = 0 ∧ run P S none m fin (RunS P none m fin) cuts n k s') →
              RunS P none m fin (((jumpOf j).map Item.code).toList ++ k) s' := by
            intro cs
            induction cs with
            | nil =>
              rintro ⟨h3, h4⟩
              have : jumpOf j = none := by simp [jumpOf, h3]
              rw [this]
              exact ih _ _ h4
            | cons c cs ihc =>
              intro h3
              rw [List.foldr_cons] at h3
              split at h3
              · rename_i code hcode
                cases hjc : j == c with
                | false => rw [hjc] at h3; exact ihc h3
                | true =>
                  rw [hjc] at h3
                  obtain rfl : j = c := by simpa using hjc
                  rw [hcode]
                  exact ih _ _ h3
              · exact ihc h3
          exact key _ h2
        · exact h.elim
      · exact h.elim
    · exact RunS.step (fun a w b cs => stepR_inBlock) (ih _ _ h)
    · exact RunS.step (fun a w b cs => stepR_inLoop) (atCut_sound h)
    · rename_i k
      split at h
      · rename_i kl
        split at h
        · rename_i L tm j hreg
          obtain ⟨hj, h2⟩ := h
          have h3 := ih _ _ h2
          intro hrd ds F0 S0 w0 β0 F β a w hI b cs hb
          have hkm : kl < m := hrd kl rfl
          have hkl : kl < s.hp.length := Nat.lt_of_lt_of_le hkm hI.mle
          have hβ : β kl = β0 kl := hI.fr.bt kl hkm
          have hok := hI.inv.ok kl
          rw [hreg] at hok
          obtain ⟨r, vs, hok⟩ := hok
          have hready : r.state = .ready := by
            have := (hok.rest (by rw [hj]; decide)).1
            rw [if_pos hj] at this; exact this
          have hb' : b.roundOf = some (β kl).b := by rw [hb, hβ]; rfl
          have hstep := stepR_beginRound (P := P) (a := a) (k := k) (cs := cs) hb' (run_beginRound hok.row hready)
          have hc : Chg (fp (β kl) (rgOf s.hp kl)) w (w.putObj (β kl).b (.loop { r with state := .busy })) := by
            rw [hreg]; exact chg_putObj hok.row (fun _ _ _ h => by cases h) (fun _ _ _ h => by cases h)
          have hsame : Same F w (w.putObj (β kl).b (.loop { r with state := .busy })) := hI.inv.same hc fun b i h => ⟨kl, h⟩
          have hI' := hI.turn hkl hc (r := .loop L tm (-1)) ⟨_, vs, loop_turn hok hsame rfl rfl rfl rfl (fun _ => rfl) fun h => absurd rfl h⟩ (fun b i h => by rw [hreg]; exact h) fun i hi => hI.inv.sc kl i (by rw [hreg]; exact hi)
          obtain ⟨j', a', w', todo', h5, h6, h7⟩ := h3 hrd ds F0 S0 w0 β0 F β a _ hI' b cs hb
          exact ⟨j', a', w', todo', h5, h6, .head hstep h7⟩
        · exact h.elim
      · exact h.elim
    · exact h.elim
end
end Go.Abs
