/-
Regions of operations: each operation, whatever of the others is done, and all of them.
-/
import Derived.Test.YtoopjhnbcbnleaaDoorA10
namespace Go.Abs
open Go.RowKit
set_option linter.unusedVariables false
set_option linter.unusedSimpArgs false
set_option linter.unnecessarySimpa false

/-- What a call may have done since its entry: w0 the world then, S0 the cells that it may write, F0 what nobody writes. -/
structure Fr (F0 : Nat → Prop) (S0 : Nat → Nat → Prop) (w0 : World) (β0 : Nat → Base) (m0 : Nat) (F : Nat → Prop) (β : Nat → Base) (rg : Nat → Reg) (w : World) : Prop where
  chg : Chg S0 w0 w
  f0 : ∀ b, F0 b → F b
  f1 : ∀ b, F b → F0 b ∨ (∃ i, S0 b i) ∨ w0.heap.size ≤ b
  own : ∀ k b i, fp (β k) (rg k) b i → S0 b i ∨ w0.heap.size ≤ b
  bt : ∀ k, k < m0 → β k = β0 k

theorem Chg.trans' {S S1 : Nat → Nat → Prop} {a b c : World} (h : Chg S a b) (k : Chg S1 b c) (hs : ∀ x i, S1 x i → S x i ∨ a.heap.size ≤ x) : Chg S a c := by
  have no : ∀ x i, x < a.heap.size → ¬ S x i → ¬ S1 x i := fun x i hx hn h1 => by
    rcases hs x i h1 with h2 | h2
    · exact hn h2
    · omega
  exact ⟨k.os.trans h.os, k.tape.trans h.tape, k.output.trans h.output, Nat.le_trans h.size k.size,
   fun i hi hn => (k.block i (Nat.lt_of_lt_of_le hi h.size) fun j => no i j hi (hn j)).trans (h.block i hi hn),
   fun i j hi hn => (k.cell i j (Nat.lt_of_lt_of_le hi h.size) (no i j hi hn)).trans (h.cell i j hi hn),
   fun i j hi hs => k.there i j (Nat.lt_of_lt_of_le hi h.size) (h.there i j hi hs),
   fun i j hi => (k.frz i j (Nat.lt_of_lt_of_le hi h.size)).trans (h.frz i j hi)⟩

theorem Fr.step {F0 : Nat → Prop} {S0 : Nat → Nat → Prop} {w0 : World} {β0 : Nat → Base} {m0 : Nat} {F F' : Nat → Prop} {β β' : Nat → Base} {al : Nat → Prop} {rg : Nat → Reg} {w w' : World} {v : AV} {wr : List (Nat × Reg)} {u : Value}
    (h : Fr F0 S0 w0 β0 m0 F β rg w) (hs : Step F β al rg w v wr F' β' w' u) (hal : ∀ k, k < m0 → al k) : Fr F0 S0 w0 β0 m0 F' β' (setAll rg wr) w' where
  chg := h.chg.trans' hs.chg fun x i ⟨k, _, hk⟩ => h.own k x i hk
  f0 := fun b hb => hs.f b (h.f0 b hb)
  f1 := fun b hb => by
    rcases hs.nf b hb with h1 | ⟨k, i, h1⟩ | h1
    · exact h.f1 b h1
    · exact (h.own k b i h1).imp (fun h => ⟨i, h⟩) id |> .inr
    · exact .inr (.inr (Nat.le_trans h.chg.size h1))
  own := fun k b i hk => by
    rcases hs.own k b i hk with ⟨j, hj⟩ | h1
    · exact h.own j b i hj
    · exact .inr (Nat.le_trans h.chg.size h1)
  bt := fun k hk => (hs.bt k (hal k hk)).trans (h.bt k hk)

theorem Fr.keep {F0 : Nat → Prop} {S0 : Nat → Nat → Prop} {w0 : World} {β0 : Nat → Base} {m0 : Nat} {F : Nat → Prop} {β : Nat → Base} {rg : Nat → Reg} {w w' : World}
    (h : Fr F0 S0 w0 β0 m0 F β rg w) (hc : Chg (fun _ _ => False) w w') : Fr F0 S0 w0 β0 m0 F β rg w' :=
  ⟨h.chg.trans' hc fun _ _ h => h.elim, h.f0, h.f1, h.own, h.bt⟩

-- ---------------------------------------------------------------- what evaluation says
def Holds (R : List Rec) (chain : List (Nat × Bool)) : Prop := ∀ p ∈ chain, ∃ r, R[p.1]? = some r ∧ r.v = .dat .bool p.2

theorem guardOf_spec {R : List Rec} {i : Nat} {g : Option (Nat × Bool)} {chain : List (Nat × Bool)} {gl : List (Bool × Bool)} (hi : i ≤ R.length) (h : guardOf (R.take i).reverse g = some (chain, gl)) :
    (g = none ∧ chain = [] ∧ gl = []) ∨ ∃ j want r t, ∃ b : Bool, g = some (j, want) ∧ j < i ∧ R[j]? = some r ∧ r.dst = some t ∧ r.v = .dat .bool b ∧ (∃ r', findRec t (R.take i).reverse = some (j, r')) ∧
      chain = (j, want) :: r.chain ∧ allG gl = ((b == want) && r.pc) := by
  unfold guardOf at h
  split at h
  · simp only [Option.some.injEq, Prod.mk.injEq] at h
    exact .inl ⟨rfl, h.1.symm, h.2.symm⟩
  · rename_i j want
    split at h
    · rename_i r hr
      split at h
      · rename_i t b hd hv
        split at h
        · rename_i m r' hf
          split at h
          · rename_i hm
            obtain ⟨rfl, hlt⟩ := hm
            simp only [Option.some.injEq, Prod.mk.injEq] at h
            have hlen : (R.take i).reverse.length = i := by simp; omega
            rw [hlen] at hlt hr
            rw [List.getElem?_reverse (by simp; omega)] at hr
            have e : (R.take i).length - 1 - (i - 1 - m) = m := by simp; omega
            rw [e, List.getElem?_take] at hr
            simp [hlt] at hr
            exact .inr ⟨m, want, r, t, b, rfl, hlt, hr, hd, hv, ⟨r', hf⟩, h.1.symm, by rw [← h.2]; rfl⟩
          · cases h
        · cases h
      · cases h
    · cases h

theorem evNext_spec {P : Program} {S : Sums} {tm : List AV} {base : Nat} {o : Oper} {recs : List Rec} {hp : List Reg} {r : Rec} {ob : List Prop} (h : evNext P S tm base o recs hp = some (r, ob)) :
    (∀ d, o.dst = some d → d < tm.length) ∧ ∃ chain gl, guardOf recs o.guard = some (chain, gl) ∧
      ((∃ tc a b, o.op = .pick (.tmp tc) a b ∧ evPick tm o recs chain gl tc a b = some (r, ob)) ∨ evPlain P S tm base o recs hp chain gl = some (r, ob)) := by
  unfold evNext at h
  split at h
  · cases h
  · rename_i hd
    split at h
    · cases h
    · rename_i chain gl hg
      refine ⟨fun d he => by simpa [dstIn, he] using hd, chain, gl, hg, ?_⟩
      split at h
      · rename_i tc a b ho
        exact .inl ⟨tc, a, b, ho, h⟩
      · exact .inr h

theorem evPick_spec {tm : List AV} {o : Oper} {recs : List Rec} {chain : List (Nat × Bool)} {gl : List (Bool × Bool)} {tc : Tmp} {a b : Operand} {r : Rec} {ob : List Prop} (h : evPick tm o recs chain gl tc a b = some (r, ob)) :
    ∃ m q, ∃ c : Bool, ∃ v, findRec tc recs = some (m, q) ∧ (∀ p ∈ q.chain, p ∈ chain) ∧ q.v = .dat .bool c ∧ pickAV c (lookOp tm recs ((m, true) :: chain) a) (lookOp tm recs ((m, false) :: chain) b) = some v ∧
      r = { dst := o.dst, chain, gl, v, rd := [], wr := [] } := by
  unfold evPick at h
  split at h
  · rename_i m q hf
    split at h
    · rename_i hc
      split at h
      · rename_i c hv
        simp only [Option.map_eq_some_iff, Prod.mk.injEq] at h
        obtain ⟨v, h1, h2, _⟩ := h
        exact ⟨m, q, c, v, hf, fun p hp => by simpa using List.all_eq_true.1 hc p hp, hv, h1, h2.symm⟩
      · cases h
    · cases h
  · cases h

theorem imps_of : ∀ {gl : List (Bool × Bool)} {p : Prop}, imps gl p → allG gl = true → p
  | [], p, h, _ => h
  | (b, w) :: r, p, h, ha => by
    simp only [allG, List.all_cons, Bool.and_eq_true, beq_iff_eq] at ha
    exact imps_of (h ha.1) ha.2

theorem evPlain_spec {P : Program} {S : Sums} {tm : List AV} {base : Nat} {o : Oper} {recs : List Rec} {hp : List Reg} {chain : List (Nat × Bool)} {gl : List (Bool × Bool)} {r : Rec} {ob : List Prop} (h : evPlain P S tm base o recs hp chain gl = some (r, ob)) :
    ∃ ks out, evalOp' P S o ((o.op.operands.toList.map (lookOp tm recs chain)).map (AV.viewF (seen ks (rgOf hp)))) (seen ks (rgOf hp)) (base + gap * recs.length) = some out ∧
      (∀ k ∈ out.wr.map (·.1), (base + gap * recs.length ≤ k ∧ k < base + gap * recs.length + gap) ∨ seen ks (rgOf hp) k ≠ .dead) ∧ r.dst = o.dst ∧ r.chain = chain ∧ r.v = out.v ∧
      r.rd = ks ∧ r.wr = out.wr ∧ ((chain = [] ∧ r.pc = true ∧ ob = out.ob) ∨ (chain ≠ [] ∧ r.pc = allG gl ∧ r.wr = [] ∧ ((∀ p ∈ ob, p) → allG gl = true → ∀ p ∈ out.ob, p))) := by
  unfold evPlain at h
  dsimp only at h
  split at h
  · cases h
  · rename_i out ho
    refine ⟨_, out, ho, ?_⟩
    split at h
    · rename_i hw
      have hw' : ∀ k ∈ out.wr.map (·.1), (base + gap * recs.length ≤ k ∧ k < base + gap * recs.length + gap) ∨ seen (keysOf o (o.op.operands.toList.map (lookOp tm recs chain)) (rgOf hp)) (rgOf hp) k ≠ .dead := by
        intro k hk
        obtain ⟨p, hp, rfl⟩ := List.mem_map.1 hk
        have := List.all_eq_true.1 hw p hp
        simp only [Bool.or_eq_true, Bool.and_eq_true, decide_eq_true_eq] at this
        exact this.imp id fun h e => by rw [e] at h; cases h
      refine ⟨hw', ?_⟩
      split at h
      · simp only [Option.some.injEq, Prod.mk.injEq] at h
        obtain ⟨rfl, rfl⟩ := h
        exact ⟨rfl, rfl, rfl, rfl, rfl, .inl ⟨rfl, rfl, rfl⟩⟩
      · split at h
        · rename_i hwr
          simp only [Option.some.injEq, Prod.mk.injEq] at h
          obtain ⟨rfl, rfl⟩ := h
          refine ⟨rfl, rfl, rfl, rfl, hwr.symm, .inr ⟨by simp, rfl, rfl, fun hp hc p hm => ?_⟩⟩
          exact imps_of (hp (imps gl p) (List.mem_map.2 ⟨p, hm, rfl⟩)) hc
        · cases h
    · cases h

theorem evOps_spec {P : Program} {S : Sums} {tm : List AV} {base : Nat} : ∀ {l : List Oper} {recs : List Rec} {hp : List Reg} {obs : List Prop} {recs' : List Rec} {hp' : List Reg} {obs' : List Prop},
    evOps P S tm base l recs hp obs = some (recs', hp', obs') → ∃ R, recs' = R.reverse ++ recs ∧ R.length = l.length ∧ (∀ p ∈ obs, p ∈ obs') ∧ hp' = hpAt R hp l.length ∧
      ∀ i o r, l[i]? = some o → R[i]? = some r → ∃ ob, evNext P S tm base o ((R.take i).reverse ++ recs) (hpAt R hp i) = some (r, ob) ∧ ∀ p ∈ ob, p ∈ obs'
  | [], recs, hp, obs, recs', hp', obs', h => by
    simp only [evOps, Option.some.injEq, Prod.mk.injEq] at h
    obtain ⟨rfl, rfl, rfl⟩ := h
    exact ⟨[], rfl, rfl, fun _ h => h, rfl, fun i o r h => by simp at h⟩
  | o :: l, recs, hp, obs, recs', hp', obs', h => by
    simp only [evOps] at h
    split at h
    · rename_i r ob hn
      obtain ⟨R, h1, h2, h3, h4, h5⟩ := evOps_spec h
      refine ⟨r :: R, by simp [h1], by simp [h2], fun p hp => h3 p (List.mem_append_right _ hp), by simpa [hpAt] using h4, fun i o' r' ho hr => ?_⟩
      cases i with
      | zero =>
        simp at ho hr; subst ho hr
        exact ⟨ob, by simpa [hpAt] using hn, fun p hp => h3 p (List.mem_append_left _ (List.mem_reverse.2 hp))⟩
      | succ i =>
        obtain ⟨ob', h6, h7⟩ := h5 i o' r' (by simpa using ho) (by simpa using hr)
        exact ⟨ob', by simpa [hpAt] using h6, h7⟩
    · cases h

section
variable {P : Program} {S : Sums} {ops : Array Oper} {tm : List AV} {hp : List Reg} {R : List Rec} {ds : List Deferred} {F0 : Nat → Prop} {S0 : Nat → Nat → Prop} {w0 : World} {β0 : Nat → Base} {m0 : Nat} {F : Nat → Prop} {β : Nat → Base} {D : Nat → Bool} {w : World} {a : Act}

/-- The records are those of the text's order, and what they owe holds. -/
structure Evald (P : Program) (S : Sums) (ops : Array Oper) (tm : List AV) (hp : List Reg) (R : List Rec) : Prop where
  len : R.length = ops.size
  at' : ∀ i o r, ops[i]? = some o → R[i]? = some r → ∃ ob, evNext P S tm hp.length o (R.take i).reverse (hpAt R hp i) = some (r, ob) ∧ ∀ p ∈ ob, p

theorem Evald.op (h : Evald P S ops tm hp R) {i : Nat} {r : Rec} (hr : R[i]? = some r) : ∃ o, ops[i]? = some o :=
  ⟨ops[i]'(by have := (List.getElem?_eq_some_iff.1 hr).1; rw [h.len] at this; exact this), Array.getElem?_eq_getElem _⟩

theorem Evald.dst (h : Evald P S ops tm hp R) {i : Nat} {o : Oper} {r : Rec} (ho : ops[i]? = some o) (hr : R[i]? = some r) : r.dst = o.dst ∧ ∀ d, o.dst = some d → d < tm.length := by
  obtain ⟨ob, h1, _⟩ := h.at' i o r ho hr
  obtain ⟨h2, chain, pc, h3, h4⟩ := evNext_spec h1
  refine ⟨?_, h2⟩
  rcases h4 with ⟨tc, x, y, _, h5⟩ | h5
  · obtain ⟨m, q, c, v, _, _, _, _, rfl⟩ := evPick_spec h5; rfl
  · obtain ⟨ks, out, _, _, h6, _⟩ := evPlain_spec h5; exact h6

/-- A record's operation runs just if its guards' answers are those wanted. -/
theorem Evald.chain (h : Evald P S ops tm hp R) : ∀ (i : Nat) (o : Oper) (r : Rec), ops[i]? = some o → R[i]? = some r →
    (r.pc = true ↔ Holds R r.chain) ∧ ∃ chain gl, guardOf (R.take i).reverse o.guard = some (chain, gl) ∧ r.chain = chain ∧ r.pc = allG gl := by
  intro i
  induction i using Nat.strongRecOn with
  | ind i ih =>
    intro o r ho hr
    have hi : i < R.length := (List.getElem?_eq_some_iff.1 hr).1
    obtain ⟨ob, h1, _⟩ := h.at' i o r ho hr
    obtain ⟨h2, chain, gl, h3, h4⟩ := evNext_spec h1
    have hpc : allG gl = true ↔ Holds R chain := by
      rcases guardOf_spec (by omega) h3 with ⟨_, rfl, rfl⟩ | ⟨j, want, q, t, b, _, hj, hq, hd, hv, _, rfl, hgl⟩
      · simp [Holds, allG]
      · obtain ⟨o', ho'⟩ := h.op hq
        have := (ih j hj o' q ho' hq).1
        rw [hgl]
        simp only [Bool.and_eq_true, beq_iff_eq, this, Holds, List.forall_mem_cons]
        refine and_congr ⟨fun e => ⟨q, hq, by rw [hv, e]⟩, fun ⟨q', hq', e⟩ => ?_⟩ Iff.rfl
        rw [hq] at hq'
        obtain rfl := Option.some.inj hq'
        rw [hv] at e
        simpa using e
    have hch : chain = [] → allG gl = true := fun e => hpc.2 (by subst e; simp [Holds])
    have key : r.chain = chain ∧ r.pc = allG gl := by
      rcases h4 with ⟨tc, x, y, _, h5⟩ | h5
      · obtain ⟨m, q, c, v, _, _, _, _, rfl⟩ := evPick_spec h5; exact ⟨rfl, rfl⟩
      · obtain ⟨ks, out, _, _, _, h6, _, _, _, h7⟩ := evPlain_spec h5
        refine ⟨h6, ?_⟩
        rcases h7 with ⟨h8, h9, _⟩ | ⟨_, h9, _⟩
        · rw [h9, hch h8]
        · exact h9
    exact ⟨by rw [key.1, key.2]; exact hpc, chain, gl, h3, key⟩

/-- The regions' numbers that are taken when D is done. -/
def alD (base : Nat) (R : List Rec) (D : Nat → Bool) (k : Nat) : Prop := k < base ∨ ∃ i r, D i = true ∧ R[i]? = some r ∧ (base + gap * i ≤ k ∧ k < base + gap * i + gap) ∧ wrAt r.wr k ≠ none

def SlotOk (F : Nat → Prop) (β : Nat → Base) (w : World) (al : Nat → Prop) (d : AV) (u : Value) : Option Rec → Prop
  | some r => (r.pc = true → VR F β w r.v u ∧ ∀ k ∈ r.v.refs, al k) ∧ (r.pc = false → u = undef)
  | none => VR F β w d u ∧ ∀ k ∈ d.refs, al k

/-- What holds when the operations of D are done. -/
structure InvD (tm : List AV) (hp : List Reg) (R : List Rec) (ds : List Deferred) (F0 : Nat → Prop) (S0 : Nat → Nat → Prop) (w0 : World) (β0 : Nat → Base) (m0 : Nat) (D : Nat → Bool) (F : Nat → Prop) (β : Nat → Base) (a : Act) (w : World) : Prop where
  inv : Inv F β (alD hp.length R D) (rgD D R (rgOf hp)) w
  fr : Fr F0 S0 w0 β0 m0 F β (rgD D R (rgOf hp)) w
  size : a.tmps.size = tm.length
  ds : a.defers = ds
  mle : m0 ≤ hp.length
  slot : ∀ t, t < tm.length → SlotOk F β w (alD hp.length R D) (tm.getD t .bad) (a.tmps.getD t undef) (lastW D (slotF t) R 0)

/-- Those that are done meet operation i as the text has it. -/
def Meets (ops : Array Oper) (R : List Rec) (D : Nat → Bool) (i : Nat) : Prop := ∀ oi ri, ops[i]? = some oi → R[i]? = some ri → ∀ j oj rj, ops[j]? = some oj → R[j]? = some rj →
  (j < i → D j = false → clash ops rj ri oj oi = false) ∧ (i < j → D j = true → clash ops ri rj oi oj = false)

def addD (D : Nat → Bool) (i : Nat) : Nat → Bool := fun j => decide (j = i) || D j

theorem last_agree (hR : Evald P S ops tm hp R) {i : Nat} (hD : D i = false) {oi : Oper} {ri : Rec} (ho : ops[i]? = some oi) (hr : R[i]? = some ri) (hm : Meets ops R D i) {t : Tmp} (ht : t ∈ oi.looksAt ops) :
    lastW D (slotF t) R 0 = lastW (upTo i) (slotF t) R 0 := by
  refine lastW_congr fun j r hj hf => ?_
  obtain ⟨oj, hoj⟩ := hR.op hj
  have hd : r.dst = some t := by
    cases hq : slotF t r with
    | none => exact absurd hq hf
    | some x => exact (slotF_some hq).1
  have hmm := hm oi ri ho hr j oj r hoj hj
  simp only [Nat.zero_add, upTo]
  rcases Nat.lt_trichotomy j i with h | h | h
  · cases hDj : D j with
    | true => simp [h]
    | false =>
      have := hmm.1 h hDj
      simp [clash, hd, ht] at this
  · subst h; simp [hD]
  · cases hDj : D j with
    | false => simp; omega
    | true =>
      have := hmm.2 h hDj
      simp [clash, hd, ht] at this

theorem look_sound (hR : Evald P S ops tm hp R) (hI : InvD tm hp R ds F0 S0 w0 β0 m0 D F β a w) {i : Nat} (hD : D i = false) {oi : Oper} {ri : Rec} (ho : ops[i]? = some oi) (hr : R[i]? = some ri) (hm : Meets ops R D i)
    {chain : List (Nat × Bool)} (hch : Holds R chain) {x : Operand} (hx : ∀ t, x = .tmp t → t ∈ oi.looksAt ops) :
    VR F β w (lookOp tm (R.take i).reverse chain x) (a.eval x) ∧ ∀ k ∈ (lookOp tm (R.take i).reverse chain x).refs, alD hp.length R D k := by
  cases x with
  | const v => exact ⟨ofConst_sound v, fun k hk => by simp [lookOp, ofConst_refs] at hk⟩
  | func f =>
    refine ⟨?_, fun k hk => by simp [lookOp, AV.refs, refsL] at hk⟩
    simp only [lookOp, Act.eval]
    unfold VR
    exact ⟨[], [], rfl, VRs.nil, VRs.nil⟩
  | global g => exact ⟨by simp only [lookOp]; unfold VR; trivial, fun k hk => by simp [lookOp, AV.refs] at hk⟩
  | tmp t =>
    have hag := last_agree hR hD ho hr hm (hx t rfl)
    rw [← findRec_last] at hag
    have bad : VR F β w .bad (a.eval (.tmp t)) ∧ ∀ k ∈ AV.bad.refs, alD hp.length R D k := ⟨by unfold VR; trivial, fun k hk => by simp [AV.refs] at hk⟩
    simp only [lookOp, lookTmp]
    cases hf : findRec t (R.take i).reverse with
    | none =>
      rw [hf] at hag
      simp only [Option.map_none] at hag
      rcases Nat.lt_or_ge t tm.length with hl | hl
      · have := hI.slot t hl
        rw [hag] at this
        exact this
      · rw [show tm.getD t .bad = .bad by simp [List.getElem?_eq_none hl]]; exact bad
    | some p =>
      obtain ⟨m, r⟩ := p
      rw [hf] at hag
      simp only [Option.map_some] at hag
      obtain ⟨h1, h2, h3, _⟩ := findRec_some hf
      rw [List.reverse_reverse, List.getElem?_take] at h2
      have hlt : m < i := by simp at h1; omega
      rw [if_pos hlt] at h2
      obtain ⟨om, hom⟩ := hR.op h2
      have hd := hR.dst hom h2
      have hl : t < tm.length := hd.2 t (by rw [← hd.1]; exact h3)
      dsimp only
      split
      · rename_i hc
        have hpc : r.pc = true := (hR.chain m om r hom h2).1.2 fun p hp => hch p (by simpa using List.all_eq_true.1 hc p hp)
        have := hI.slot t hl
        rw [hag] at this
        exact this.1 hpc
      · exact bad

theorem looks_sound (hR : Evald P S ops tm hp R) (hI : InvD tm hp R ds F0 S0 w0 β0 m0 D F β a w) {i : Nat} (hD : D i = false) {oi : Oper} {ri : Rec} (ho : ops[i]? = some oi) (hr : R[i]? = some ri) (hm : Meets ops R D i)
    {chain : List (Nat × Bool)} (hch : Holds R chain) : ∀ {xs : List Operand}, (∀ t, .tmp t ∈ xs → t ∈ oi.looksAt ops) →
    VRs F β w (xs.map (lookOp tm (R.take i).reverse chain)) (xs.map a.eval) ∧ ∀ k ∈ refsL (xs.map (lookOp tm (R.take i).reverse chain)), alD hp.length R D k
  | [], _ => ⟨VRs.nil, fun k hk => by simp [refsL] at hk⟩
  | x :: xs, h => by
    have h1 := look_sound hR hI hD ho hr hm hch (x := x) fun t e => h t (by simp [e])
    have h2 := looks_sound hR hI hD ho hr hm hch (xs := xs) fun t e => h t (by simp [e])
    refine ⟨VRs.cons h1.1 h2.1, fun k hk => ?_⟩
    rw [List.map_cons, refsL, List.mem_append] at hk
    exact hk.elim (h1.2 k) (h2.2 k)

theorem mem_looks {o : Oper} {t : Tmp} (h : Operand.tmp t ∈ o.op.operands.toList) : t ∈ o.looksAt ops := by
  unfold Oper.looksAt
  exact List.mem_append_left _ (List.mem_filterMap.2 ⟨_, h, rfl⟩)

theorem wanted_pc (hR : Evald P S ops tm hp R) (hI : InvD tm hp R ds F0 S0 w0 β0 m0 D F β a w) {i : Nat} (hD : D i = false) {oi : Oper} {ri : Rec} (ho : ops[i]? = some oi) (hr : R[i]? = some ri) (hm : Meets ops R D i) :
    Region.wanted oi (yielded ops a.tmps) = ri.pc := by
  obtain ⟨hpc, chain, gl, hg, hc, hp'⟩ := hR.chain i oi ri ho hr
  have hi : i < R.length := (List.getElem?_eq_some_iff.1 hr).1
  rw [hp']
  rcases guardOf_spec (by omega) hg with ⟨h1, _, rfl⟩ | ⟨j, want, r, t, b, h1, hj, hq, hd, hv, ⟨r', hf⟩, _, hgl⟩
  · simp [Region.wanted, h1, allG]
  · obtain ⟨oj, hoj⟩ := hR.op hq
    have hdj := hR.dst hoj hq
    have hojd : oj.dst = some t := by rw [← hdj.1]; exact hd
    have ht : t ∈ oi.looksAt ops := by
      unfold Oper.looksAt
      refine List.mem_append_right _ ?_
      simp [h1, hoj, hojd]
    have hag := last_agree hR hD ho hr hm ht
    rw [← findRec_last, hf] at hag
    obtain ⟨_, h2, _, _⟩ := findRec_some hf
    rw [List.reverse_reverse, List.getElem?_take, if_pos hj, hq] at h2
    obtain rfl := Option.some.inj h2
    have hl : t < tm.length := hdj.2 t hojd
    have hs := hI.slot t hl
    rw [hag] at hs
    simp only [Option.map_some] at hs
    have hlt : t < a.tmps.size := by rw [hI.size]; exact hl
    have hget : a.tmps[t]? = some (a.tmps.getD t undef) := by simp [hlt]
    have hy : yielded ops a.tmps j = if r.pc = true then some b else none := by
      unfold yielded
      simp only [hoj, Option.bind_some, hojd, hget]
      cases hrp : r.pc with
      | true =>
        have := (hs.1 hrp).1
        rw [hv] at this
        rw [bool_val this]; rfl
      | false => rw [hs.2 hrp]; rfl
    rw [hgl]
    simp only [Region.wanted, h1, hy]
    cases r.pc <;> cases b <;> cases want <;> rfl

theorem addD_self (D : Nat → Bool) (i : Nat) : addD D i i = true := by simp [addD]
theorem addD_ne (D : Nat → Bool) {i j : Nat} (h : j ≠ i) : addD D i j = D j := by simp [addD, h]

theorem lastW_add {α : Type} {f : Rec → Option α} {i : Nat} {ri : Rec} (hr : R[i]? = some ri) (hf : f ri = none) : lastW (addD D i) f R 0 = lastW D f R 0 :=
  lastW_congr fun j r hj hn => by
    rw [Nat.zero_add]
    refine addD_ne D fun e => ?_
    subst e; rw [hr] at hj; obtain rfl := Option.some.inj hj
    exact hn hf

theorem put_get (a : Act) (d : Option Tmp) (u : Value) (t : Nat) : (a.put d u).tmps.getD t undef = if d = some t ∧ t < a.tmps.size then u else a.tmps.getD t undef := by
  cases d with
  | none => simp [Act.put]
  | some d =>
    by_cases e : d = t
    · subst e
      by_cases h : d < a.tmps.size
      · simp [Act.put, h]
      · simp [Act.put, h]
    · simp [Act.put, e, Array.getElem?_setIfInBounds_ne e]

theorem put_size (a : Act) (d : Option Tmp) (u : Value) : (a.put d u).tmps.size = a.tmps.size := by
  cases d <;> simp [Act.put]
theorem put_defers (a : Act) (d : Option Tmp) (u : Value) : (a.put d u).defers = a.defers := by
  cases d <;> simp [Act.put]

theorem SlotOk.mono {F F' : Nat → Prop} {β β' : Nat → Base} {w w' : World} {al al' : Nat → Prop} {d : AV} {u : Value} {o : Option Rec} (h : SlotOk F β w al d u o) (hF : ∀ b, F b → F' b) (hw : Same F w w')
    (hβ : ∀ k, al k → β' k = β k) (ha : ∀ k, al k → al' k) : SlotOk F' β' w' al' d u o := by
  cases o with
  | none => exact ⟨VR.mono hF hw (fun k hk => hβ k (h.2 k hk)) h.1, fun k hk => ha k (h.2 k hk)⟩
  | some r => exact ⟨fun hp => ⟨VR.mono hF hw (fun k hk => hβ k ((h.1 hp).2 k hk)) (h.1 hp).1, fun k hk => ha k ((h.1 hp).2 k hk)⟩, h.2⟩

theorem alD_add {base : Nat} {i k : Nat} (h : alD base R D k) : alD base R (addD D i) k := by
  rcases h with h | ⟨j, r, h1, h2⟩
  · exact .inl h
  · exact .inr ⟨j, r, by simp [addD, h1], h2⟩

/-- Operation i has run. -/
theorem close_step (hR : Evald P S ops tm hp R) (hI : InvD tm hp R ds F0 S0 w0 β0 m0 D F β a w) {i : Nat} (hD : D i = false) {oi : Oper} {ri : Rec} (ho : ops[i]? = some oi) (hr : R[i]? = some ri) (hm : Meets ops R D i)
    (hpc : ri.pc = true) {F' : Nat → Prop} {β' : Nat → Base} {w' : World} {u : Value} (hs : Step F β (alD hp.length R D) (rgD D R (rgOf hp)) w ri.v ri.wr F' β' w' u)
    (hwr : ∀ k ∈ ri.wr.map (·.1), (hp.length + gap * i ≤ k ∧ k < hp.length + gap * i + gap) ∨ alD hp.length R D k) : InvD tm hp R ds F0 S0 w0 β0 m0 (addD D i) F' β' (a.put oi.dst u) w' := by
  have meet : ∀ j rj, R[j]? = some rj → i < j → addD D i j = true → ∃ oj, clash ops ri rj oi oj = false := fun j rj hj hij hd => by
    obtain ⟨oj, hoj⟩ := hR.op hj
    rw [addD_ne D (by omega)] at hd
    exact ⟨oj, (hm oi ri ho hr j oj rj hoj hj).2 hij hd⟩
  have hrg : setAll (rgD D R (rgOf hp)) ri.wr = rgD (addD D i) R (rgOf hp) := by
    funext k
    rw [setAll_at]
    cases hw : wrAt ri.wr k with
    | none => rw [Option.getD_none, rgD, rgD, lastW_add hr hw]
    | some x =>
      rw [Option.getD_some, rgD, lastW_at (m := i) (r := ri) hr (by rw [Nat.zero_add]; exact addD_self D i) hw fun j rj hj hij hd => ?_]
      · rfl
      · rw [Nat.zero_add] at hd
        obtain ⟨oj, hcl⟩ := meet j rj hj hij hd
        cases hk : wrAt rj.wr k with
        | none => rfl
        | some y =>
          have h1 : k ∈ ri.wr.map (·.1) := wrAt_mem.1 (by simp [hw])
          have h2 : k ∈ rj.wr.map (·.1) := wrAt_mem.1 (by simp [hk])
          obtain ⟨p, hp1, rfl⟩ := List.mem_map.1 h1
          obtain ⟨q, hq1, hq2⟩ := List.mem_map.1 h2
          simp only [clash, Bool.or_eq_false_iff, List.any_eq_false] at hcl
          have := hcl.1.2 p hp1
          simp only [Bool.or_eq_true, List.any_eq_true, not_or, not_exists, not_and] at this
          exact absurd (by simpa using hq2) (by simpa using this.2 q hq1)
  have hal : ∀ k, (alD hp.length R D k ∨ k ∈ ri.wr.map (·.1)) → alD hp.length R (addD D i) k := fun k hk => by
    rcases hk with h | h
    · exact alD_add h
    · rcases hwr k h with h' | h'
      · exact .inr ⟨i, ri, addD_self D i, hr, h', wrAt_mem.2 h⟩
      · exact alD_add h'
  have hdst := hR.dst ho hr
  have hfr := hI.fr.step hs fun k hk => .inl (Nat.lt_of_lt_of_le hk hI.mle)
  have hinv := hs.inv.al_ext hal
  rw [hrg] at hfr hinv
  refine ⟨hinv, hfr, by rw [put_size]; exact hI.size, by rw [put_defers]; exact hI.ds, hI.mle, fun t ht => ?_⟩
  rw [put_get]
  by_cases e : oi.dst = some t
  · rw [if_pos ⟨e, by rw [hI.size]; exact ht⟩, lastW_at (m := i) (r := ri) (x := ri) hr (by rw [Nat.zero_add]; exact addD_self D i) (by simp [slotF, hdst.1, e]) fun j rj hj hij hd => ?_]
    · exact ⟨fun _ => ⟨hs.val, fun k hk => hal k (hs.rf k hk)⟩, fun h => by rw [hpc] at h; cases h⟩
    · rw [Nat.zero_add] at hd
      obtain ⟨oj, hcl⟩ := meet j rj hj hij hd
      have hne : rj.dst ≠ some t := fun h => by simp [clash, hdst.1, e, h] at hcl
      simp [slotF, hne]
  · rw [if_neg (fun h => e h.1), lastW_add hr (by simp [slotF, hdst.1, e])]
    exact (hI.slot t ht).mono hs.f (hI.inv.same hs.chg fun b i ⟨k, _, hk⟩ => ⟨k, hk⟩) hs.bt fun k hk => hal k (.inl hk)

/-- Operation i was not wanted. -/
theorem close_skip (hR : Evald P S ops tm hp R) (hI : InvD tm hp R ds F0 S0 w0 β0 m0 D F β a w) {i : Nat} (hD : D i = false) {oi : Oper} {ri : Rec} (ho : ops[i]? = some oi) (hr : R[i]? = some ri) (hm : Meets ops R D i)
    (hpc : ri.pc = false) (hwr : ri.wr = []) : InvD tm hp R ds F0 S0 w0 β0 m0 (addD D i) F β (a.put oi.dst undef) w := by
  have hrg : rgD (addD D i) R (rgOf hp) = rgD D R (rgOf hp) := by
    funext k
    rw [rgD, rgD, lastW_add hr (by simp [hwr, wrAt])]
  have hdst := hR.dst ho hr
  refine ⟨by rw [hrg]; exact hI.inv.al_ext fun k hk => alD_add hk, by rw [hrg]; exact hI.fr, by rw [put_size]; exact hI.size, by rw [put_defers]; exact hI.ds, hI.mle, fun t ht => ?_⟩
  rw [put_get]
  by_cases e : oi.dst = some t
  · rw [if_pos ⟨e, by rw [hI.size]; exact ht⟩, lastW_at (m := i) (r := ri) (x := ri) hr (by rw [Nat.zero_add]; exact addD_self D i) (by simp [slotF, hdst.1, e]) fun j rj hj hij hd => ?_]
    · exact ⟨fun h => absurd (hpc ▸ h) (by simp), fun _ => rfl⟩
    · rw [Nat.zero_add, addD_ne D (by omega)] at hd
      obtain ⟨oj, hoj⟩ := hR.op hj
      have hcl := (hm oi ri ho hr j oj rj hoj hj).2 hij hd
      have hne : rj.dst ≠ some t := fun h => by simp [clash, hdst.1, e, h] at hcl
      simp [slotF, hne]
  · rw [if_neg (fun h => e h.1), lastW_add hr (by simp [slotF, hdst.1, e])]
    exact (hI.slot t ht).mono (fun _ h => h) (fun b i _ v h => h) (fun _ _ => rfl) fun k hk => alD_add hk

theorem pickAV_sound {c : Bool} {x y v : AV} (h : pickAV c x y = some v) : v = if c then x else y := by
  unfold pickAV at h
  split at h
  · rename_i t x u y
    split at h
    · rename_i e; subst e
      obtain rfl := Option.some.inj h
      cases c <;> rfl
    · cases h
  · cases h

/-- One operation of a region, whatever of the others is done. -/
theorem opD {ro : Option Nat} (hS : SumsOk P S) (hR : Evald P S ops tm hp R) (hI : InvD tm hp R ds F0 S0 w0 β0 m0 D F β a w) {i : Nat} (hD : D i = false) {oi : Oper} {ri : Rec} (ho : ops[i]? = some oi) (hr : R[i]? = some ri) (hm : Meets ops R D i)
    {K : Act → World → Prop} {Q : Exit → Act → World → Prop} (hK : ∀ a' w' F' β', InvD tm hp R ds F0 S0 w0 β0 m0 (addD D i) F' β' a' w' → K a' w') : wpOpIn (FR ro) 0 P ops Q i K a w := by
  have hi : i < R.length := (List.getElem?_eq_some_iff.1 hr).1
  have hlen : (R.take i).reverse.length = i := by simp; omega
  obtain ⟨hpcc, chain, gl, hg, hch, hpc⟩ := hR.chain i oi ri ho hr
  obtain ⟨ob, hn, hob⟩ := hR.at' i oi ri ho hr
  obtain ⟨hdt, chain', gl', hg', hcase⟩ := evNext_spec hn
  rw [hg] at hg'
  obtain ⟨rfl, rfl⟩ : chain = chain' ∧ gl = gl' := by simpa using hg'
  unfold wpOpIn
  simp only [ho, wanted_pc hR hI hD ho hr hm]
  cases hrp : ri.pc with
  | false =>
    simp only [Bool.false_eq_true, if_false]
    refine ⟨fun _ _ => trivial, hK _ _ F β (close_skip hR hI hD ho hr hm hrp ?_)⟩
    rcases hcase with ⟨tc, x, y, _, h5⟩ | h5
    · obtain ⟨m, q, c, v, _, _, _, _, rfl⟩ := evPick_spec h5; rfl
    · obtain ⟨ks, out, _, _, _, _, _, _, _, h7⟩ := evPlain_spec h5
      rcases h7 with ⟨_, h8, _⟩ | ⟨_, _, h8, _⟩
      · rw [hrp] at h8; simp at h8
      · exact h8
  | true =>
    simp only [if_true]
    have hold : Holds R chain := by rw [← hch]; exact hpcc.1 hrp
    rcases hcase with ⟨tc, x, y, hop, h5⟩ | h5
    · obtain ⟨m, q, c, v, hf, hqc, hqv, hpk, rfl⟩ := evPick_spec h5
      obtain ⟨h1, h2, h3, _⟩ := findRec_some hf
      rw [List.reverse_reverse, List.getElem?_take] at h2
      have hlt : m < i := by omega
      rw [if_pos hlt] at h2
      have hc := look_sound hR hI hD ho hr hm hold (x := .tmp tc) fun t e => mem_looks (by rw [hop]; cases e; simp [Op.operands])
      have hcv : lookOp tm (R.take i).reverse chain (.tmp tc) = .dat .bool c := by
        simp only [lookOp, lookTmp, hf]
        rw [if_pos (by simpa using hqc), hqv]
      rw [hcv] at hc
      have hcb := bool_val hc.1
      have hold' : ∀ b, b = c → Holds R ((m, b) :: chain) := fun b hb => by
        subst hb
        intro p hp
        rcases List.mem_cons.1 hp with rfl | hp
        · exact ⟨q, h2, hqv⟩
        · exact hold p hp
      have hv := pickAV_sound hpk
      have run : ∀ {z : Operand} {av : AV}, v = av → VR F β w av (a.eval z) → (∀ k ∈ av.refs, alD hp.length R D k) → (if c = true then a.eval x else a.eval y) = a.eval z → oi.wpIn (FR ro) 0 P a w K Q := fun hva hvr hrf he => by
        refine wpR_val (fun c e => by rw [hop] at e; cases e) (u := if c = true then a.eval x else a.eval y) (w' := w) (by simp [execOp, hop, hcb, asBool]) ?_
        refine hK _ _ F β (close_step hR hI hD ho hr hm hrp (u := _) (Step.quiet hI.inv (Chg.refl _ w) ?_ ?_) (by simp))
        · rw [he]; subst hva; exact hvr
        · subst hva; exact hrf
      cases c with
      | true =>
        have := look_sound hR hI hD ho hr hm (hold' true rfl) (x := x) fun t e => mem_looks (by rw [hop]; cases e; simp [Op.operands])
        exact run (by simpa using hv) this.1 this.2 (by simp)
      | false =>
        have := look_sound hR hI hD ho hr hm (hold' false rfl) (x := y) fun t e => mem_looks (by rw [hop]; cases e; simp [Op.operands])
        exact run (by simpa using hv) this.1 this.2 (by simp)
    · obtain ⟨ks, out, hev, hw1, hd, hc, hv, hrd, hwr, h7⟩ := evPlain_spec h5
      have hobs : ∀ p ∈ out.ob, p := by
        rcases h7 with ⟨_, _, rfl⟩ | ⟨_, h8, _, h9⟩
        · exact hob
        · exact h9 hob (by rw [← h8]; exact hrp)
      have hlk := looks_sound hR hI hD ho hr hm hold (xs := oi.op.operands.toList) fun t ht => mem_looks ht
      rw [hlen] at hev hw1
      have hnal : ∀ j, hp.length + gap * i ≤ j → j < hp.length + gap * i + gap → ¬ alD hp.length R D j := by
        rintro k hk1 hk2 (h | ⟨j, rj, h1, h2, h3, _⟩)
        · omega
        · have : i = j := by
            simp only [gap] at *
            omega
          subst this; rw [hD] at h1; cases h1
      have hsub : SubR (seen ks (rgOf (hpAt R hp i))) (rgD D R (rgOf hp)) := by
        intro k hk
        unfold seen at hk ⊢
        split at hk
        · rename_i hkk
          rw [rgD_hpAt (by omega), if_pos hkk, rgD, rgD]
          congr 1
          refine lastW_congr fun j rj hj hf => ?_
          rw [Nat.zero_add]
          obtain ⟨oj, hoj⟩ := hR.op hj
          have hmm := hm oi ri ho hr j oj rj hoj hj
          have hkr : k ∈ rj.wr.map (·.1) := wrAt_mem.1 hf
          obtain ⟨p, hp1, rfl⟩ := List.mem_map.1 hkr
          have hrdk : ri.rd.contains p.1 = true := by rw [hrd]; exact hkk
          simp only [upTo]
          rcases Nat.lt_trichotomy j i with h | h | h
          · cases hDj : D j with
            | true => simp [h]
            | false =>
              have hcl := hmm.1 h hDj
              simp only [clash, Bool.or_eq_false_iff, List.any_eq_false] at hcl
              have := hcl.1.2 p hp1
              simp only [hrdk, Bool.true_or, not_true_eq_false] at this
          · subst h; simp [hD]
          · cases hDj : D j with
            | false => simp; omega
            | true =>
              have hcl := hmm.2 h hDj
              simp only [clash, Bool.or_eq_false_iff, List.any_eq_false] at hcl
              have := hcl.2 p hp1
              simp only [hrdk, not_true_eq_false] at this
        · exact absurd rfl hk
      have hvw := viewFs_sound hI.inv hsub hlk.1
      refine opSound hS hI.inv hsub hnal hvw.1 (fun k hk => hlk.2 k (hvw.2 k hk)) hev hobs fun u w' F' β' hst => ?_
      rw [← hv, ← hwr] at hst
      refine hK _ _ F' β' (close_step hR hI hD ho hr hm hrp hst fun k hk => ?_)
      rw [hwr] at hk
      rcases hw1 k hk with h | h
      · exact .inl h
      · exact .inr (hI.inv.tk k (by rw [← hsub k h]; exact h))
end
end Go.Abs
