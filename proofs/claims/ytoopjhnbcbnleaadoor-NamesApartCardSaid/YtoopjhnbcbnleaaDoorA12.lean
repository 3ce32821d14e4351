/-
Regions of operations, whole.
-/
import Derived.Test.YtoopjhnbcbnleaaDoorA11
namespace Go.Abs
open Go.RowKit
set_option linter.unusedVariables false
set_option linter.unusedSimpArgs false
set_option linter.unnecessarySimpa false

/-- What holds between a state of the abstract machine and the machine's own. -/
structure SR (ds : List Deferred) (F0 : Nat → Prop) (S0 : Nat → Nat → Prop) (w0 : World) (β0 : Nat → Base) (m0 : Nat) (s : St) (F : Nat → Prop) (β : Nat → Base) (a : Act) (w : World) : Prop where
  inv : Inv F β (fun k => k < s.hp.length) (rgOf s.hp) w
  fr : Fr F0 S0 w0 β0 m0 F β (rgOf s.hp) w
  size : a.tmps.size = s.tm.length
  ds : a.defers = ds
  mle : m0 ≤ s.hp.length
  slot : ∀ t, t < s.tm.length → VR F β w (s.tm.getD t .bad) (a.tmps.getD t undef) ∧ ∀ k ∈ (s.tm.getD t .bad).refs, k < s.hp.length

section
variable {P : Program} {S : Sums} {ops : Array Oper} {tm : List AV} {hp : List Reg} {R : List Rec} {ds : List Deferred} {F0 : Nat → Prop} {S0 : Nat → Nat → Prop} {w0 : World} {β0 : Nat → Base} {m0 : Nat} {F : Nat → Prop} {β : Nat → Base} {D : Nat → Bool} {w : World} {a : Act}

theorem rgD_none (h : ∀ i, D i = false) : rgD D R (rgOf hp) = rgOf hp := by
  funext k
  rw [rgD, lastW_none fun j r _ hd => by rw [h] at hd; cases hd]
  rfl

theorem SR.start {s : St} (h : SR ds F0 S0 w0 β0 m0 s F β a w) (hD : ∀ i, D i = false) : InvD s.tm s.hp R ds F0 S0 w0 β0 m0 D F β a w := by
  refine ⟨by rw [rgD_none hD]; exact h.inv.al_ext fun k hk => .inl hk, by rw [rgD_none hD]; exact h.fr, h.size, h.ds, h.mle, fun t ht => ?_⟩
  rw [lastW_none fun j r _ hd => by rw [hD] at hd; cases hd]
  exact ⟨(h.slot t ht).1, fun k hk => .inl ((h.slot t ht).2 k hk)⟩

theorem putRecs_len (tm : List AV) : ∀ recs : List Rec, (putRecs tm recs).length = tm.length
  | [] => rfl
  | r :: rs => by
    rw [putRecs]
    split
    · rw [List.length_set]; exact putRecs_len tm rs
    · exact putRecs_len tm rs

theorem putRecs_get (tm : List AV) {t : Nat} (ht : t < tm.length) : ∀ recs : List Rec, (putRecs tm recs).getD t .bad = match findRec t recs with
    | some (_, r) => (match r.chain with | [] => r.v | _ => .bad)
    | none => tm.getD t .bad
  | [] => rfl
  | r :: rs => by
    have ih := putRecs_get tm ht rs
    rw [putRecs, findRec]
    split
    · rename_i d hd
      by_cases e : d = t
      · subst e
        rw [if_pos hd]
        simp [putRecs_len, ht]
        cases r.chain <;> rfl
      · rw [if_neg (by rw [hd]; simpa using e), ← ih]
        simp [List.getElem?_set_ne e]
    · rename_i hd
      rw [if_neg (by rw [hd]; simp), ← ih]

theorem hpAt_len : ∀ (i : Nat), i ≤ R.length → hp.length ≤ (hpAt R hp i).length ∧ ∀ j r k, R[j]? = some r → j < i → wrAt r.wr k ≠ none → k < (hpAt R hp i).length
  | 0, _ => ⟨by simp [hpAt], fun j r k _ h => by omega⟩
  | i + 1, h => by
    obtain ⟨h1, h2⟩ := hpAt_len i (by omega)
    have hr : R[i]? = some R[i] := List.getElem?_eq_getElem (by omega)
    obtain ⟨h3, h4⟩ := setRegs_len R[i].wr (hpAt R hp i)
    rw [hpAt_succ hr]
    refine ⟨by omega, fun j r k hj hji hk => ?_⟩
    by_cases e : j = i
    · subst e; rw [hr] at hj; obtain rfl := Option.some.inj hj
      exact h4 k (wrAt_mem.1 hk)
    · exact Nat.lt_of_lt_of_le (h2 j r k hj (by omega) hk) h3

theorem InvD.finish (hR : Evald P S ops tm hp R) (h : InvD tm hp R ds F0 S0 w0 β0 m0 D F β a w) (hD : ∀ i, i < R.length → D i = true) :
    SR ds F0 S0 w0 β0 m0 { tm := putRecs tm R.reverse, hp := hpAt R hp R.length } F β a w := by
  have hal : ∀ k, alD hp.length R D k → k < (hpAt R hp R.length).length := fun k hk => by
    obtain ⟨h1, h2⟩ := hpAt_len (R := R) (hp := hp) R.length (Nat.le_refl _)
    rcases hk with hk | ⟨i, r, _, h4, _, h6⟩
    · omega
    · exact h2 i r k h4 (List.getElem?_eq_some_iff.1 h4).1 h6
  have agree : ∀ {α : Type} (f : Rec → Option α), lastW D f R 0 = lastW (upTo R.length) f R 0 := fun f => lastW_congr fun j r hj _ => by
    have := (List.getElem?_eq_some_iff.1 hj).1
    rw [Nat.zero_add, hD j this]; simp [upTo, this]
  have hrg : rgD D R (rgOf hp) = rgOf (hpAt R hp R.length) := by
    rw [rgD_hpAt (Nat.le_refl _)]
    funext k
    rw [rgD, rgD, agree]
  refine ⟨by rw [← hrg]; exact h.inv.al_ext hal, by rw [← hrg]; exact h.fr, by rw [putRecs_len]; exact h.size, h.ds, Nat.le_trans h.mle (hpAt_len (R := R) (hp := hp) R.length (Nat.le_refl _)).1, fun t ht => ?_⟩
  rw [putRecs_len] at ht
  have hs := h.slot t ht
  rw [agree, ← findRec_last, List.take_length] at hs
  rw [putRecs_get tm ht]
  cases hf : findRec t R.reverse with
  | none => rw [hf] at hs; exact ⟨hs.1, fun k hk => hal k (hs.2 k hk)⟩
  | some p =>
    obtain ⟨m, r⟩ := p
    rw [hf] at hs
    dsimp only
    split
    · rename_i hc
      obtain ⟨_, h2, _, _⟩ := findRec_some hf
      rw [List.reverse_reverse] at h2
      obtain ⟨o, ho⟩ := hR.op h2
      have hpc : r.pc = true := (hR.chain m o r ho h2).1.2 (by rw [hc]; simp [Holds])
      have := hs.1 hpc
      exact ⟨this.1, fun k hk => hal k (this.2 k hk)⟩
    · exact ⟨by unfold VR; trivial, fun k hk => by simp [AV.refs] at hk⟩

/-- The text's order. -/
theorem textOrder {ro : Option Nat} (hS : SumsOk P S) (hR : Evald P S ops tm hp R) {Q : Exit → Act → World → Prop}
    (hQ : ∀ a' w' F' β', SR ds F0 S0 w0 β0 m0 { tm := putRecs tm R.reverse, hp := hpAt R hp R.length } F' β' a' w' → Q .normal a' w') : ∀ (m i : Nat), i + m = R.length → ∀ a w F β, InvD tm hp R ds F0 S0 w0 β0 m0 (upTo i) F β a w → wpOpsIn (FR ro) 0 P ops Q (List.range' i m) a w
  | 0, i, hm, a, w, F, β, hI => hQ a w F β (hI.finish hR fun j hj => by simp [upTo]; omega)
  | m + 1, i, hm, a, w, F, β, hI => by
    have hi : i < R.length := by omega
    have hr : R[i]? = some R[i] := List.getElem?_eq_getElem hi
    obtain ⟨o, ho⟩ := hR.op hr
    rw [List.range'_succ, wpOpsIn_cons]
    refine opD hS hR hI (i := i) (by simp [upTo]) ho hr (fun oi ri _ _ j oj rj _ _ => ⟨fun h hd => by simp [upTo] at hd; omega, fun h hd => by simp [upTo] at hd; omega⟩) fun a' w' F' β' hI' => ?_
    refine textOrder hS hR hQ m (i + 1) (by omega) a' w' F' β' ?_
    have : addD (upTo i) i = upTo (i + 1) := by
      funext j; simp only [addD, upTo]
      rw [Bool.eq_iff_iff]; simp; omega
    rw [← this]; exact hI'

theorem fold_mask (M : List Nat) (j : Nat) : ∀ (es : List Edge) (s : Nat), (es.foldl (fun s e => if Region.binds .any e then s ||| (2 ^ e.on) ||| M.getD e.on 0 else s) s).testBit j = true →
    s.testBit j = true ∨ ∃ e ∈ es, Region.binds .any e = true ∧ (e.on = j ∨ (M.getD e.on 0).testBit j = true)
  | [], s, h => .inl h
  | e :: es, s, h => by
    rw [List.foldl_cons] at h
    rcases fold_mask M j es _ h with h1 | ⟨e', h1, h2⟩
    · split at h1
      · rename_i hb
        rw [Nat.testBit_or, Nat.testBit_or] at h1
        simp only [Bool.or_eq_true] at h1
        rcases h1 with (h1 | h1) | h1
        · exact .inl h1
        · rw [Nat.testBit_two_pow] at h1
          exact .inr ⟨e, by simp, hb, .inl (by simpa using h1)⟩
        · exact .inr ⟨e, by simp, hb, .inr h1⟩
      · exact .inl h1
    · exact .inr ⟨e', by simp [h1], h2⟩

theorem maskOf_spec {M : List Nat} {o : Oper} {j : Nat} (h : (maskOf M o).testBit j = true) : ∃ e ∈ o.after, Region.binds .any e = true ∧ (e.on = j ∨ (M.getD e.on 0).testBit j = true) := by
  rcases fold_mask M j _ _ h with h | ⟨e, h1, h2⟩
  · simp at h
  · exact ⟨e, by simpa using h1, h2⟩

theorem pairsOk_spec {o : Oper} {r : Rec} {m : Nat} : ∀ {os : List Oper} {rs : List Rec} {i : Nat}, pairsOk ops o r m os rs i = true → ∀ j oj rj, os[j]? = some oj → rs[j]? = some rj → clash ops rj r oj o = true → m.testBit (i + j) = true
  | [], _, _, _, j, oj, rj, h, _, _ => by simp at h
  | _ :: _, [], _, _, j, oj, rj, _, h, _ => by simp at h
  | o' :: os, r' :: rs, i, h, j, oj, rj, ho, hr, hc => by
    simp only [pairsOk, Bool.and_eq_true] at h
    cases j with
    | zero =>
      simp at ho hr; subst ho hr
      simpa [hc] using h.1
    | succ j =>
      have := pairsOk_spec h.2 j oj rj (by simpa using ho) (by simpa using hr) hc
      simpa [Nat.add_assoc, Nat.add_comm 1 j] using this

theorem anyOrder_spec {M : List Nat} : ∀ {os : List Oper} {rs : List Rec} {i : Nat}, anyOrder ops M R os rs i = true → ∀ j o r, os[j]? = some o → rs[j]? = some r →
    edgesOk (i + j) o = true ∧ M.getD (i + j) 0 = maskOf M o ∧ pairsOk ops o r (M.getD (i + j) 0) (ops.toList.take (i + j)) (R.take (i + j)) 0 = true
  | [], _, _, _, j, o, r, h, _ => by simp at h
  | _ :: _, [], _, _, j, o, r, _, h => by simp at h
  | o' :: os, r' :: rs, i, h, j, o, r, ho, hr => by
    simp only [anyOrder, Bool.and_eq_true, beq_iff_eq] at h
    cases j with
    | zero =>
      simp at ho hr; subst ho hr
      exact ⟨h.1.1.1, h.1.1.2, h.1.2⟩
    | succ j =>
      have := anyOrder_spec h.2 j o r (by simpa using ho) (by simpa using hr)
      simpa [Nat.add_assoc, Nat.add_comm 1 j] using this

/-- What is checked of a region whose order is open. -/
structure Open (ops : Array Oper) (R : List Rec) (M : List Nat) : Prop where
  edge : ∀ i o, ops[i]? = some o → ∀ e ∈ o.after, Region.binds .any e = true → e.on < i
  mask : ∀ i o, ops[i]? = some o → M.getD i 0 = maskOf M o
  pair : ∀ i o r j oj rj, ops[i]? = some o → R[i]? = some r → ops[j]? = some oj → R[j]? = some rj → j < i → clash ops rj r oj o = true → (M.getD i 0).testBit j = true

theorem Open.of {M : List Nat} (hl : R.length = ops.size) (h : anyOrder ops M R ops.toList R 0 = true) : Open ops R M := by
  have key : ∀ i o, ops[i]? = some o → ∃ r, R[i]? = some r := fun i o ho => ⟨R[i]'(by rw [hl]; exact (Array.getElem?_eq_some_iff.1 ho).1), List.getElem?_eq_getElem _⟩
  refine ⟨fun i o ho e he hb => ?_, fun i o ho => ?_, fun i o r j oj rj ho hr hoj hrj hji hc => ?_⟩
  · obtain ⟨r, hr⟩ := key i o ho
    have := (anyOrder_spec h i o r (by simpa using ho) hr).1
    rw [Nat.zero_add] at this
    have := List.all_eq_true.1 this e (by simpa using he)
    simpa [hb] using this
  · obtain ⟨r, hr⟩ := key i o ho
    have := (anyOrder_spec h i o r (by simpa using ho) hr).2.1
    rwa [Nat.zero_add] at this
  · have := (anyOrder_spec h i o r (by simpa using ho) hr).2.2
    rw [Nat.zero_add] at this
    have := pairsOk_spec this j oj rj (by rw [List.getElem?_take, if_pos hji]; simpa using hoj) (by rw [List.getElem?_take, if_pos hji]; exact hrj) hc
    rwa [Nat.zero_add] at this

theorem Open.bits {M : List Nat} (h : Open ops R M) (hc : ∀ i o, ops[i]? = some o → D i = true → ∀ e ∈ o.after, Region.binds .any e = true → D e.on = true) :
    ∀ (i : Nat) (o : Oper), ops[i]? = some o → (∀ e ∈ o.after, Region.binds .any e = true → D e.on = true) → ∀ j, (M.getD i 0).testBit j = true → D j = true := by
  intro i
  induction i using Nat.strongRecOn with
  | ind i ih =>
    intro o ho hd j hj
    rw [h.mask i o ho] at hj
    obtain ⟨e, he, hb, h1⟩ := maskOf_spec hj
    have hde := hd e he hb
    rcases h1 with rfl | h1
    · exact hde
    · have hlt := h.edge i o ho e he hb
      have ho' : ops[e.on]? = some (ops[e.on]'(by have := (Array.getElem?_eq_some_iff.1 ho).1; omega)) := Array.getElem?_eq_getElem _
      exact ih e.on hlt _ ho' (hc e.on _ ho' hde) j h1

theorem Open.meets {M : List Nat} (h : Open ops R M) (hc : ∀ i o, ops[i]? = some o → D i = true → ∀ e ∈ o.after, Region.binds .any e = true → D e.on = true) {i : Nat} {o : Oper} (ho : ops[i]? = some o)
    (hd : ∀ e ∈ o.after, Region.binds .any e = true → D e.on = true) (hi : D i = false) : Meets ops R D i := by
  intro oi ri hoi hri j oj rj hoj hrj
  rw [ho] at hoi; obtain rfl := Option.some.inj hoi
  refine ⟨fun hji hdj => ?_, fun hij hdj => ?_⟩
  · cases hcl : clash ops rj ri oj o with
    | false => rfl
    | true =>
      have := h.bits hc i o ho hd j (h.pair i o ri j oj rj ho hri hoj hrj hji hcl)
      rw [hdj] at this; cases this
  · cases hcl : clash ops ri rj o oj with
    | false => rfl
    | true =>
      have := h.bits hc j oj hoj (hc j oj hoj hdj) i (h.pair j oj rj i o ri hoj hrj ho hri hij hcl)
      rw [hi] at this; cases this

theorem anyOrder_wp {ro : Option Nat} (hS : SumsOk P S) (hR : Evald P S ops tm hp R) {M : List Nat} (hO : Open ops R M) {Q : Exit → Act → World → Prop}
    (hQ : ∀ a' w' F' β', SR ds F0 S0 w0 β0 m0 { tm := putRecs tm R.reverse, hp := hpAt R hp R.length } F' β' a' w' → Q .normal a' w') :
    ∀ (fuel : Nat) (listed : Array Bool) (a : Act) (w : World) (F : Nat → Prop) (β : Nat → Base), listed.size = ops.size → listed.toList.count false ≤ fuel →
      (∀ i o, ops[i]? = some o → listed.getD i false = true → ∀ e ∈ o.after, Region.binds .any e = true → listed.getD e.on false = true) →
      InvD tm hp R ds F0 S0 w0 β0 m0 (fun i => listed.getD i false) F β a w → wpAnyIn (FR ro) 0 P .any ops Q fuel listed a w := by
  -- where nothing is ready all is done
  have all : ∀ (listed : Array Bool), listed.size = ops.size → Region.ready .any ops listed = [] → ∀ i, i < R.length → listed.getD i false = true := by
    intro listed hsz hrd i
    induction i using Nat.strongRecOn with
    | ind i ih =>
      intro hi
      cases hli : listed.getD i false with
      | true => rfl
      | false =>
        exfalso
        have hio : i < ops.size := by rw [← hR.len]; exact hi
        have ho : ops[i]? = some ops[i] := Array.getElem?_eq_getElem hio
        have : i ∈ Region.ready .any ops listed := by
          rw [mem_ready]
          refine ⟨?_, ops[i], ho, fun e he hb => ih e.on (hO.edge i _ ho e he hb) (by have := hO.edge i _ ho e he hb; omega)⟩
          have hil : i < listed.size := by omega
          simp [hil] at hli ⊢; exact hli
        rw [hrd] at this; cases this
  intro fuel
  induction fuel with
  | zero =>
    intro listed a w F β hsz hcnt hcl hI
    have hall : ∀ i, i < ops.size → listed.getD i true = true := fun i hi => by
      have hc : listed.toList.count false = 0 := by omega
      rw [List.count_eq_zero] at hc
      have hil : i < listed.size := by omega
      simp only [Array.getD, hil, dif_pos]
      cases hb : listed[i] with
      | true => simpa using hb
      | false => exact absurd (by rw [← hb]; simp) hc
    have hrd : Region.ready .any ops listed = [] := by
      rw [List.eq_nil_iff_forall_not_mem]
      intro i hi
      obtain ⟨h1, o, ho, _⟩ := mem_ready.1 hi
      rw [hall i (Array.getElem?_eq_some_iff.1 ho).1] at h1; cases h1
    exact ⟨hrd, hQ a w F β (hI.finish hR (all listed hsz hrd))⟩
  | succ fuel ih =>
    intro listed a w F β hsz hcnt hcl hI
    refine ⟨fun hrd => hQ a w F β (hI.finish hR (all listed hsz hrd)), fun i hi => ?_⟩
    obtain ⟨h0, o, ho, hed⟩ := mem_ready.1 hi
    have hio : i < ops.size := (Array.getElem?_eq_some_iff.1 ho).1
    have hil : i < listed.size := by omega
    have hli : listed.getD i false = false := by simp [hil] at h0 ⊢; exact h0
    have hr : R[i]? = some (R[i]'(by rw [hR.len]; exact hio)) := List.getElem?_eq_getElem _
    have hadd : (fun j => (listed.setIfInBounds i true).getD j false) = addD (fun j => listed.getD j false) i := by
      funext j
      by_cases e : j = i
      · subst e; simp [addD, hil]
      · rw [getD_set_ne false (Ne.symm e), addD_ne _ e]
    refine opD hS hR hI (i := i) hli ho hr (hO.meets hcl ho hed hli) fun a' w' F' β' hI' => ?_
    refine ih _ a' w' F' β' (by simpa using hsz) ?_ (fun j oj hoj hj e he hb => ?_) (by rw [hadd]; exact hI')
    · have hb : listed.toList[i]'(by simpa using hil) = false := by simp [hil] at hli; simpa using hli
      rw [Array.toList_setIfInBounds, List.count_set (by simpa using hil)]
      have : 0 < listed.toList.count false := List.count_pos_iff.2 (by rw [← hb]; exact List.getElem_mem _)
      rw [hb]
      simp only [beq_self_eq_true, if_true, show (true == false) = false from rfl, Bool.false_eq_true, if_false]
      omega
    · by_cases e' : j = i
      · subst e'; rw [ho] at hoj; obtain rfl := Option.some.inj hoj
        exact getD_set_true (hed e he hb)
      · rw [getD_set_ne false (Ne.symm e')] at hj
        exact getD_set_true (hcl j oj hoj hj e he hb)

theorem evRegion_sound {ro : Option Nat} (hS : SumsOk P S) (hmix : P.follows .mixedOrders = true) {id : Nat} {draw : Bool} {s s' : St} {obs : List Prop} (h : evRegion P S ops draw s = some (s', obs)) (hob : ∀ p ∈ obs, p)
    (hI : SR ds F0 S0 w0 β0 m0 s F β a w) {Q : Exit → Act → World → Prop} (hQ : ∀ a' w' F' β', SR ds F0 S0 w0 β0 m0 s' F' β' a' w' → Q .normal a' w') : (Code.region id ops draw).wpIn (FR ro) 0 P Q a w := by
  unfold evRegion at h
  split at h
  · cases h
  · rename_i recs hp' obs' hev
    split at h
    · rename_i hd
      simp only [Option.some.injEq, Prod.mk.injEq] at h
      obtain ⟨rfl, rfl⟩ := h
      obtain ⟨R, rfl, hlen, _, rfl, hat⟩ := evOps_spec hev
      have hl : R.length = ops.size := by rw [hlen]; simp
      rw [List.append_nil] at hd hQ
      have hR : Evald P S ops s.tm s.hp R := ⟨hl, fun i o r ho hr => by
        obtain ⟨ob, h1, h2⟩ := hat i o r (by simpa using ho) hr
        rw [List.append_nil] at h1
        exact ⟨ob, h1, fun p hp => hob p (by simpa using h2 p hp)⟩⟩
      rw [List.reverse_reverse] at hd
      have hlo : ops.toList.length = R.length := by rw [hl]; simp
      rw [hlo] at hQ
      cases draw with
      | false =>
        refine wpIn_region ?_
        rw [List.range_eq_range']
        exact textOrder hS hR hQ ops.size 0 (by omega) a w F β (hI.start fun i => by simp [upTo])
      | true =>
        refine wpIn_region_any hmix ?_
        have hc : Chg (fun _ _ => False) w { w with drawn := w.drawn + 1 } := ⟨rfl, rfl, rfl, Nat.le_refl _, fun _ _ _ => rfl, fun _ _ _ _ => rfl, fun _ _ _ h => h, fun _ _ _ => rfl⟩
        have hI' : SR ds F0 S0 w0 β0 m0 s F β a { w with drawn := w.drawn + 1 } :=
          ⟨hI.inv.keep hc, hI.fr.keep hc, hI.size, hI.ds, hI.mle, fun t ht => ⟨VR.mono (fun _ h => h) (hI.inv.same hc fun _ _ h => h.elim) (fun _ _ => rfl) (hI.slot t ht).1, (hI.slot t ht).2⟩⟩
        exact anyOrder_wp hS hR (Open.of hl (by simpa using hd)) hQ ops.size _ a _ F β (by simp) (by simp) (fun i o ho hi => by
          simp only [Array.getD] at hi
          split at hi <;> simp at hi) (hI'.start fun i => by
          simp only [Array.getD]
          split <;> simp)
    · cases h
end
end Go.Abs
