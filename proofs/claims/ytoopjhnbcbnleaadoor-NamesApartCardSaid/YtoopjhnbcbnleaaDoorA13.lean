/-
Cuts: a state laid into another one's shape: slots that are dead are let go, regions are numbered anew.
-/
import Derived.Test.YtoopjhnbcbnleaaDoorA12
namespace Go.Abs
open Go.RowKit
set_option linter.unusedVariables false
set_option linter.unusedSimpArgs false
set_option linter.unnecessarySimpa false

/-- A value's shape. -/
inductive SSh where
  | dat (t : Ty)
  | ref (k o : Nat)
  | arr (k : Nat)
  | fn (f : FuncId) (caps : List (Nat × Nat))
  | ptr (t : Ty)          -- a pointer that is read alone
  | yld (k : Nat)
  | bad                   -- nothing is known
  deriving Inhabited

/-- Where a region's number is found. -/
inductive Src where
  | slot (t : Tmp)
  | cell (k o : Nat)
  | at (k : Nat)
  | lslot (k : Nat) (t : Tmp)    -- a slot of the loop that is region k

inductive RSh where
  | cells (src : Src) (cs : List SSh)
  | arr (src : Src) (t : Ty)
  | own (src : Src) (t : Ty)
  | loop (src : Src) (shs : List SSh)
  | dead (k : Nat)              -- let go, and what it was may be found elsewhere

structure Cut where
  slots : List (Tmp × SSh)
  regs : List RSh

/-- What a region of the new state was. -/
inductive Rn where
  | old (k : Nat)
  | nil
  | full (t : Tmp)
  | gone (k : Nat)
  deriving DecidableEq

def RSh.src : RSh → Src
  | .cells s _ | .arr s _ | .own s _ | .loop s _ => s
  | .dead k => .at k

def rnOf : AV → Option Tmp → Option Rn
  | .arr k, _ | .ref k _, _ | .yld k, _ => some (.old k)
  | .cst (.slice none 0 0), _ => some .nil
  | .full _ _, some t => some (.full t)
  | _, _ => none

def renStep (s : St) (ren : List Rn) : Src → Option Rn
  | .at k => some (.old k)
  | .slot t => rnOf (s.tm.getD t .bad) (some t)
  | .cell j o => match ren[j]? with
    | some (.old k) => match rgOf s.hp k with
      | .cells cs => match split 200 cs o with
        | some (_, c :: _) => rnOf c none
        | _ => none
      | _ => none
    | _ => none
  | .lslot j t => match ren[j]? with
    | some (.old k) => match rgOf s.hp k with
      | .loop _ tm _ => rnOf (tm.getD t .bad) none
      | _ => none
    | _ => none

def renOne (s : St) (ren : List Rn) : RSh → Option Rn
  | .dead k => some (.gone k)
  | r => renStep s ren r.src

def renAll (s : St) : List RSh → List Rn → Option (List Rn)
  | [], ren => some ren
  | r :: rs, ren => match renOne s ren r with
    | some x => renAll s rs (ren ++ [x])
    | none => none

def olds : List Rn → List Nat
  | [] => []
  | .old k :: r => k :: olds r
  | _ :: r => olds r

def distinct : List Nat → Bool
  | [] => true
  | k :: ks => !ks.contains k && distinct ks

def convCaps (ren : List Rn) : List (Nat × Nat) → List AV → Option (List AV)
  | [], [] => some []
  | (k, o) :: r, .ref k' o' :: as => if ren[k]? = some (.old k') ∧ o = o' then (convCaps ren r as).map (.ref k o :: ·) else none
  | _, _ => none

def conv1 (ren : List Rn) (cur : Option Tmp) : SSh → AV → Option AV
  | .dat t, a => if a.solid = true ∧ a.isAggV = t.isAgg then (AV.get? t a).map (.dat t) else none
  | .ref k o, .ref k' o' => if ren[k]? = some (.old k') ∧ o = o' then some (.ref k o) else none
  | .arr k, .arr k' => if ren[k]? = some (.old k') then some (.arr k) else none
  | .arr k, .cst (.slice none 0 0) => if ren[k]? = some .nil then some (.arr k) else none
  | .arr k, .full _ _ => match cur with
    | some t => if ren[k]? = some (.full t) then some (.arr k) else none
    | none => none
  | .fn f caps, .fn (.func f') [] cs => if f = f' then (convCaps ren caps cs).map (.fn (.func f) [] ·) else none
  | .ptr t, .elt t' xs i o => match Ty.sub t t' (xs.getD i t'.dflt) o with
    | some x => if t.isAgg = true ∨ t.nc = 1 then some (.elt t [x] 0 0) else none
    | none => none
  | .yld k, .yld k' => if ren[k]? = some (.old k') then some (.yld k) else none
  | _, _ => none

/-- A loop's slots. -/
def convTm (rg : Nat → Reg) (ren : List Rn) : List SSh → List AV → Option (List AV)
  | [], [] => some []
  | .bad :: shs, _ :: as => (convTm rg ren shs as).map (.bad :: ·)
  | sh :: shs, a :: as => match conv1 ren none sh (a.viewF rg) with
    | some a' => (convTm rg ren shs as).map (a' :: ·)
    | none => none
  | _, _ => none

def SSh.w : SSh → Nat
  | .dat t => t.nc
  | _ => 1

def SSh.isDat : SSh → Bool
  | .dat _ => true
  | _ => false

def convCells (ren : List Rn) : List SSh → List AV → Option (List AV)
  | [], [] => some []
  | [], _ :: _ => none
  | sh :: shs, cs => match split 200 cs sh.w with
    | some (p, r) => match sh, p with
      | .dat t, p => match asm 100 t p with
        | some (x, []) => (convCells ren shs r).map (.dat t x :: ·)
        | _ => none
      | sh, [a] => match conv1 ren none sh a with
        | some a' => (convCells ren shs r).map (a' :: ·)
        | none => none
      | _, _ => none
    | none => none

def convReg (s : St) (ren : List Rn) (rn : Rn) : RSh → Option Reg
  | .cells _ shs => match rn with
    | .old k => match rgOf s.hp k with
      | .cells cs => (convCells ren shs cs).map .cells
      | _ => none
    | _ => none
  | .arr _ t => match rn with
    | .old k => match rgOf s.hp k with
      | .arr t' xs | .own t' xs => if h : t' = t then some (.arr t (h ▸ xs)) else none
      | _ => none
    | .nil => some (.arr t [])
    | .full i => match s.tm.getD i .bad with
      | .full t' xs => if h : t' = t then some (.arr t (h ▸ xs)) else none
      | _ => none
    | .gone _ => none
  | .own _ t => match rn with
    | .old k => match rgOf s.hp k with
      | .own t' xs => if h : t' = t then some (.own t (h ▸ xs)) else none
      | _ => none
    | .nil => some (.own t [])
    | .full _ => none
    | .gone _ => none
  | .loop _ shs => match rn with
    | .old k => match rgOf s.hp k with
      | .loop L tm j => (convTm (rgOf s.hp) ren shs tm).map fun tm' => .loop L tm' j
      | _ => none
    | _ => none
  | .dead _ => match rn with
    | .gone _ => some .dead
    | _ => none

def convRegs (s : St) (ren : List Rn) : List RSh → List Rn → Option (List Reg)
  | [], [] => some []
  | r :: rs, x :: xs => match convReg s ren x r with
    | some g => (convRegs s ren rs xs).map (g :: ·)
    | none => none
  | _, _ => none

def convSlots (s : St) (ren : List Rn) : List (Tmp × SSh) → List AV → Option (List AV)
  | [], tm => some tm
  | (t, sh) :: r, tm => match conv1 ren (some t) sh ((s.tm.getD t .bad).viewF (rgOf s.hp)) with
    | some a => convSlots s ren r (tm.set t a)
    | none => none

/-- The state in the cut's shape; the regions below m stay where they are. -/
def cutSt (m : Nat) (c : Cut) (s : St) : Option St := match renAll s c.regs [] with
  | some ren => if distinct (olds ren) = true ∧ ((List.range m).all fun k => ren[k]? == some (.old k) || ren[k]? == some (.gone k)) = true then match convRegs s ren c.regs ren with
    | some hp => match convSlots s ren c.slots (List.replicate s.tm.length .bad) with
      | some tm => some { tm, hp }
      | none => none
    | none => none
    else none
  | none => none

-- ---------------------------------------------------------------- soundness
def fullBase (nc : Nat) : Value → Base
  | .slice (some ad) n c => { b := ad.block, o := ad.off, s := nc, len := n, cap := c, A := some ad, bor := true }
  | .slice none n c => { b := 0, o := 0, s := nc, len := n, cap := c, A := none, bor := true }
  | _ => default

def RSh.nc : RSh → Nat
  | .arr _ t | .own _ t => t.nc
  | _ => 0

def rnBase (β : Nat → Base) (tmps : Array Value) (nc : Nat) : Rn → Base
  | .old k => β k
  | .nil => { b := 0, o := 0, s := nc, len := 0, cap := 0, A := none }
  | .full t => fullBase nc (tmps.getD t undef)
  | .gone k => β k

def newβ (β : Nat → Base) (tmps : Array Value) (regs : List RSh) (ren : List Rn) (k : Nat) : Base := match ren[k]?, regs[k]? with
  | some x, some r => rnBase β tmps r.nc x
  | _, _ => default

section
variable {F : Nat → Prop} {β β' : Nat → Base} {w : World} {ren : List Rn}

/-- The new regions' places. -/
structure Placed (F : Nat → Prop) (β : Nat → Base) (β' : Nat → Base) (w : World) (tm : List AV) (tmps : Array Value) (ren : List Rn) : Prop where
  old : ∀ k k', ren[k]? = some (.old k') → β' k = β k'
  gone : ∀ k k', ren[k]? = some (.gone k') → β' k = β k'
  nil : ∀ k, ren[k]? = some .nil → (β' k).A = none ∧ (β' k).len = 0 ∧ (β' k).cap = 0
  full : ∀ k t, ren[k]? = some (.full t) → ∀ A n c, tmps.getD t undef = .slice A n c → (β' k).A = A ∧ (β' k).len = n ∧ (β' k).cap = c

theorem convCaps_sound {tm : List AV} {tmps : Array Value} (hp : Placed F β β' w tm tmps ren) : ∀ {caps : List (Nat × Nat)} {as bs : List AV} {us : List Value}, convCaps ren caps as = some bs → VRs F β w as us →
    VRs F β' w bs us ∧ ∀ k ∈ refsL bs, k < ren.length
  | [], [], bs, us, h, hv => by
    simp only [convCaps, Option.some.injEq] at h; subst h
    exact ⟨by unfold VRs at hv ⊢; exact hv, fun k hk => by simp [refsL] at hk⟩
  | [], _ :: _, bs, us, h, hv => by simp [convCaps] at h
  | (k, o) :: r, [], bs, us, h, hv => by simp [convCaps] at h
  | (k, o) :: r, a :: as, bs, us, h, hv => by
    cases a with
    | ref k' o' =>
      simp only [convCaps] at h
      split at h
      · rename_i hc
        obtain ⟨bs', h1, rfl⟩ := Option.map_eq_some_iff.1 h
        unfold VRs at hv
        obtain ⟨u, us', rfl, h2, h3⟩ := hv
        have ih := convCaps_sound hp h1 h3
        unfold VR at h2
        refine ⟨VRs.cons (by unfold VR; rw [hp.old k k' hc.1, hc.2]; exact h2) ih.1, fun j hj => ?_⟩
        simp only [refsL, AV.refs, List.cons_append, List.nil_append, List.mem_cons] at hj
        rcases hj with rfl | hj
        · exact (List.getElem?_eq_some_iff.1 hc.1).1
        · exact ih.2 j hj
      · cases h
    | _ => simp [convCaps] at h

theorem conv1_sound {tm : List AV} {tmps : Array Value} (hp : Placed F β β' w tm tmps ren) {cur : Option Tmp} {sh : SSh} {a a' : AV} {v : Value} (h : conv1 ren cur sh a = some a') (hv : VR F β w a v)
    (hcur : ∀ t, cur = some t → tmps.getD t undef = v) : VR F β' w a' v ∧ ∀ k ∈ a'.refs, k < ren.length := by
  unfold conv1 at h
  split at h
  · rename_i t a
    split at h
    · rename_i hc
      obtain ⟨x, hx, rfl⟩ := Option.map_eq_some_iff.1 h
      refine ⟨?_, fun k hk => by simp [AV.refs] at hk⟩
      have hrd := AV.get_sound hx hc.1 hv
      unfold VR
      split
      · rename_i ht
        exact ⟨v.cells.toList, hv.aggCells (by rw [hc.2]; exact ht), hrd⟩
      · rename_i ht
        rw [hv.flatCells hc.1 (by rw [hc.2]; simpa using ht)] at hrd
        exact hrd
    · cases h
  · rename_i k o k' o'
    split at h
    · rename_i hc
      obtain rfl := Option.some.inj h
      unfold VR at hv ⊢
      refine ⟨by rw [hp.old k k' hc.1, hc.2]; exact hv, fun j hj => ?_⟩
      simp [AV.refs] at hj; subst hj
      exact (List.getElem?_eq_some_iff.1 hc.1).1
    · cases h
  · rename_i k k'
    split at h
    · rename_i hc
      obtain rfl := Option.some.inj h
      unfold VR at hv ⊢
      refine ⟨by rw [hp.old k k' hc]; exact hv, fun j hj => ?_⟩
      simp [AV.refs] at hj; subst hj
      exact (List.getElem?_eq_some_iff.1 hc).1
    · cases h
  · rename_i k
    split at h
    · rename_i hc
      obtain rfl := Option.some.inj h
      unfold VR at hv ⊢
      obtain ⟨h1, h2, h3⟩ := hp.nil k hc
      refine ⟨by rw [h1, h2, h3]; exact hv.1, fun j hj => ?_⟩
      simp [AV.refs] at hj; subst hj
      exact (List.getElem?_eq_some_iff.1 hc).1
    · cases h
  · rename_i k t xs
    split at h
    · rename_i t0
      split at h
      · rename_i hc
        obtain rfl := Option.some.inj h
        unfold VR at hv ⊢
        obtain ⟨A, rfl, hrd⟩ := hv
        obtain ⟨h1, h2, h3⟩ := hp.full k t0 hc _ _ _ (hcur t0 rfl)
        refine ⟨by rw [h1, h2, h3], fun j hj => ?_⟩
        simp [AV.refs] at hj; subst hj
        exact (List.getElem?_eq_some_iff.1 hc).1
      · cases h
    · cases h
  · rename_i f caps f' cs
    split at h
    · rename_i hf
      subst hf
      obtain ⟨bs, hb, rfl⟩ := Option.map_eq_some_iff.1 h
      unfold VR at hv ⊢
      obtain ⟨x, y, rfl, h1, h2⟩ := hv
      have := convCaps_sound hp hb h2
      refine ⟨⟨x, y, rfl, by unfold VRs at h1 ⊢; exact h1, this.1⟩, fun k hk => ?_⟩
      simp only [AV.refs, refsL, List.nil_append] at hk
      exact this.2 k hk
    · cases h
  · rename_i t t' xs i o
    split at h
    · rename_i x hx
      split at h
      · obtain rfl := Option.some.inj h
        refine ⟨?_, fun k hk => by simp [AV.refs] at hk⟩
        unfold VR at hv ⊢
        obtain ⟨b, c, rfl, hb, hi, hr⟩ := hv
        obtain ⟨vs, hrd, hvs⟩ := hr i xs[i] (List.getElem?_eq_getElem hi)
        rw [show xs.getD i t'.dflt = xs[i] by simp [hi]] at hx
        obtain ⟨p, q, r, e, hl, hq⟩ := RD.sub hx hrd
        refine ⟨b, c + i * t'.nc + o, by simp, hb, by simp, fun j y hj => ?_⟩
        cases j with
        | succ j => simp at hj
        | zero =>
          simp at hj; subst hj
          refine ⟨q, hq, fun n v hn => ?_⟩
          have := hvs (o + n) v (by
            rw [e, List.append_assoc, List.getElem?_append_right (by omega), List.getElem?_append_left (by have := (List.getElem?_eq_some_iff.1 hn).1; omega)]
            rw [show o + n - p.length = n by omega]; exact hn)
          rw [← Nat.add_assoc] at this
          simpa using this
      · cases h
    · cases h
  · rename_i k k'
    split at h
    · rename_i hc
      obtain rfl := Option.some.inj h
      unfold VR at hv ⊢
      refine ⟨by rw [hp.old k k' hc]; exact hv, fun j hj => ?_⟩
      simp [AV.refs] at hj; subst hj
      exact (List.getElem?_eq_some_iff.1 hc).1
    · cases h
  · cases h

theorem convTm_sound {al : Nat → Prop} {rg : Nat → Reg} {tm : List AV} {tmps : Array Value} (hI : Inv F β al rg w) (hp : Placed F β β' w tm tmps ren) : ∀ {shs : List SSh} {as bs : List AV} {us : List Value}, convTm rg ren shs as = some bs → VRs F β w as us →
    VRs F β' w bs us ∧ ∀ k ∈ refsL bs, k < ren.length
  | [], [], bs, us, h, hv => by
    simp only [convTm, Option.some.injEq] at h; subst h
    exact ⟨by unfold VRs at hv ⊢; exact hv, fun k hk => by simp [refsL] at hk⟩
  | [], _ :: _, bs, us, h, hv => by simp [convTm] at h
  | sh :: shs, [], bs, us, h, hv => by cases sh <;> simp [convTm] at h
  | sh :: shs, a :: as, bs, us, h, hv => by
    unfold VRs at hv
    obtain ⟨u, us', rfl, h2, h3⟩ := hv
    unfold convTm at h
    split at h
    · rename_i heq; cases heq
    · rename_i shs' a' as' heq1 heq2
      injection heq1 with e1 e2
      injection heq2 with e3 e4
      subst e2; subst e4
      obtain ⟨bs', h1, rfl⟩ := Option.map_eq_some_iff.1 h
      have ih := convTm_sound hI hp h1 h3
      exact ⟨VRs.cons (by unfold VR; trivial) ih.1, fun j hj => by simp only [refsL, AV.refs, List.nil_append] at hj; exact ih.2 j hj⟩
    · rename_i sh' shs' a' as' hnb heq1 heq2
      injection heq1 with e1 e2
      injection heq2 with e3 e4
      subst e1; subst e2; subst e3; subst e4
      split at h
      · rename_i a2 ha
        obtain ⟨bs', h1, rfl⟩ := Option.map_eq_some_iff.1 h
        have ih := convTm_sound hI hp h1 h3
        have hv2 := (viewF_sound hI (fun _ _ => rfl) h2).1
        have hc := conv1_sound hp ha hv2 (fun t ht => by cases ht)
        refine ⟨VRs.cons hc.1 ih.1, fun j hj => ?_⟩
        rw [refsL, List.mem_append] at hj
        exact hj.elim (hc.2 j) (ih.2 j)
      · cases h
    · cases h

theorem conv1_notDat {cur : Option Tmp} {sh : SSh} {a a' : AV} (h : conv1 ren cur sh a = some a') (hs : sh.isDat = false) : a'.isDat = false ∧ a.isDat = false := by
  unfold conv1 at h
  split at h
  · simp [SSh.isDat] at hs
  all_goals first
    | (split at h <;> first | (obtain rfl := Option.some.inj h; exact ⟨rfl, rfl⟩) | (cases h; done) | (split at h <;> first | (obtain rfl := Option.some.inj h; exact ⟨rfl, rfl⟩) | (cases h; done)) | (obtain ⟨x, _, rfl⟩ := Option.map_eq_some_iff.1 h; exact ⟨rfl, rfl⟩))
    | (cases h; done)

theorem convCells_sound {tm : List AV} {tmps : Array Value} (hp : Placed F β β' w tm tmps ren) : ∀ {shs : List SSh} {cs cs' : List AV} {us : List Value}, convCells ren shs cs = some cs' → CRs F β w cs us →
    CRs F β' w cs' us ∧ ∀ k ∈ refsL cs', k < ren.length
  | [], [], cs', us, h, hc => by
    simp only [convCells, Option.some.injEq] at h; subst h
    exact ⟨by unfold CRs at hc ⊢; exact hc, fun k hk => by simp [refsL] at hk⟩
  | [], _ :: _, cs', us, h, hc => by simp [convCells] at h
  | sh :: shs, cs, cs', us, h, hc => by
    simp only [convCells] at h
    split at h
    · rename_i p r hsp
      obtain ⟨x, y, rfl, hx, h1, h2⟩ := CRs.split hsp hc
      split at h
      · rename_i t p
        split at h
        · rename_i z hz
          obtain ⟨cs2, h3, rfl⟩ := Option.map_eq_some_iff.1 h
          obtain ⟨a, b, rfl, h4, h5⟩ := asm_sound _ _ _ _ _ _ hz h1
          unfold CRs at h5; subst h5
          have ih := convCells_sound hp h3 h2
          refine ⟨?_, fun k hk => ?_⟩
          · unfold CRs
            exact ⟨a, y, by simp, h4, ih.1⟩
          · rw [refsL, List.mem_append] at hk
            exact hk.elim (fun h => by simp [AV.refs] at h) (ih.2 k)
        · cases h
      · rename_i a hnd
        split at h
        · rename_i a' ha
          obtain ⟨cs2, h3, rfl⟩ := Option.map_eq_some_iff.1 h
          have hnd' : sh.isDat = false := by cases sh <;> first | rfl | exact (hnd _ rfl).elim
          obtain ⟨hd1, hd2⟩ := conv1_notDat ha hnd'
          rw [CRs.oneCons hd2] at h1
          obtain ⟨u, e, rfl, ho, hv, he⟩ := h1
          unfold CRs at he; subst he
          have hcv := conv1_sound hp ha hv (fun t ht => by cases ht)
          have ih := convCells_sound hp h3 h2
          refine ⟨?_, fun k hk => ?_⟩
          · rw [CRs.oneCons hd1]
            exact ⟨u, y, by simp, ho, hcv.1, ih.1⟩
          · rw [refsL, List.mem_append] at hk
            exact hk.elim (hcv.2 k) (ih.2 k)
        · cases h
      · cases h
    · cases h

theorem renAll_len {s : St} : ∀ {rs : List RSh} {ren ren' : List Rn}, renAll s rs ren = some ren' → ren'.length = ren.length + rs.length
  | [], ren, ren', h => by simp only [renAll, Option.some.injEq] at h; subst h; simp
  | r :: rs, ren, ren', h => by
    simp only [renAll] at h
    split at h
    · have := renAll_len h
      simp at this ⊢; omega
    · cases h

theorem mem_olds {k : Nat} : ∀ {ren : List Rn} {i : Nat}, ren[i]? = some (.old k) → k ∈ olds ren
  | [], i, h => by simp at h
  | r :: rs, 0, h => by simp at h; subst h; simp [olds]
  | r :: rs, i + 1, h => by
    have := mem_olds (ren := rs) (i := i) (by simpa using h)
    cases r <;> simp [olds, this]

theorem olds_inj : ∀ {ren : List Rn} {i j k : Nat}, distinct (olds ren) = true → ren[i]? = some (.old k) → ren[j]? = some (.old k) → i = j
  | [], i, j, k, _, h, _ => by simp at h
  | r :: rs, i, j, k, hd, h1, h2 => by
    have hd' : distinct (olds rs) = true := by
      cases r <;> simp [olds, distinct] at hd ⊢
      · exact hd.2
      · exact hd
      · exact hd
      · exact hd
    cases i with
    | zero =>
      cases j with
      | zero => rfl
      | succ j =>
        simp at h1 h2; subst h1
        simp [olds, distinct] at hd
        exact absurd (mem_olds h2) hd.1
    | succ i =>
      cases j with
      | zero =>
        simp at h1 h2; subst h2
        simp [olds, distinct] at hd
        exact absurd (mem_olds h1) hd.1
      | succ j =>
        simp at h1 h2
        rw [olds_inj hd' h1 h2]

theorem convRegs_at {s : St} {ren : List Rn} : ∀ {rs : List RSh} {xs : List Rn} {hp : List Reg}, convRegs s ren rs xs = some hp → hp.length = rs.length ∧ rs.length = xs.length ∧
    ∀ (k : Nat) (g : Reg), hp[k]? = some g → ∃ r x, rs[k]? = some r ∧ xs[k]? = some x ∧ convReg s ren x r = some g
  | [], [], hp, h => by simp only [convRegs, Option.some.injEq] at h; subst h; exact ⟨rfl, rfl, fun k g h => by simp at h⟩
  | [], _ :: _, hp, h => by simp [convRegs] at h
  | _ :: _, [], hp, h => by simp [convRegs] at h
  | r :: rs, x :: xs, hp, h => by
    simp only [convRegs] at h
    split at h
    · rename_i g hg
      obtain ⟨hp', h1, rfl⟩ := Option.map_eq_some_iff.1 h
      obtain ⟨i1, i2, i3⟩ := convRegs_at h1
      refine ⟨by simp [i1], by simp [i2], fun k g' hk => ?_⟩
      cases k with
      | zero => simp at hk; subst hk; exact ⟨r, x, rfl, rfl, hg⟩
      | succ k => simpa using i3 k g' (by simpa using hk)
    · cases h

variable {ds : List Deferred} {F0 : Nat → Prop} {S0 : Nat → Nat → Prop} {w0 : World} {β0 : Nat → Base} {m0 : Nat} {a : Act} {s : St}

theorem placed (regs : List RSh) (hl : ren.length = regs.length) (tm : List AV) (tmps : Array Value) : Placed F β (newβ β tmps regs ren) w tm tmps ren := by
  have reg : ∀ k x, ren[k]? = some x → ∃ r, regs[k]? = some r ∧ newβ β tmps regs ren k = rnBase β tmps r.nc x := fun k x hk => by
    have hlt := (List.getElem?_eq_some_iff.1 hk).1
    rw [hl] at hlt
    exact ⟨regs[k], List.getElem?_eq_getElem hlt, by simp [newβ, hk, List.getElem?_eq_getElem hlt]⟩
  refine ⟨fun k k' hk => ?_, fun k k' hk => ?_, fun k hk => ?_, fun k t hk A n c hv => ?_⟩
  · obtain ⟨r, _, e⟩ := reg k _ hk; rw [e]; rfl
  · obtain ⟨r, _, e⟩ := reg k _ hk; rw [e]; rfl
  · obtain ⟨r, _, e⟩ := reg k _ hk; rw [e]; exact ⟨rfl, rfl, rfl⟩
  · obtain ⟨r, _, e⟩ := reg k _ hk
    rw [e]
    simp only [rnBase, hv]
    cases A <;> exact ⟨rfl, rfl, rfl⟩

theorem SR.full {s : St} (h : SR ds F0 S0 w0 β0 m0 s F β a w) {i : Nat} {t : Ty} {xs : List t.car} (hi : s.tm.getD i .bad = .full t xs) : ∃ A, a.tmps.getD i undef = .slice A xs.length xs.length ∧ RD F w (.list t) xs [.slice A xs.length xs.length] := by
  have hlt : i < s.tm.length := by
    rcases Nat.lt_or_ge i s.tm.length with h | h
    · exact h
    · rw [List.getD_eq_getElem?_getD, List.getElem?_eq_none h] at hi; cases hi
  have := (h.slot i hlt).1
  rw [hi] at this
  unfold VR at this
  obtain ⟨A, e, hrd⟩ := this
  exact ⟨A, e, by rw [← e]; exact hrd⟩

theorem full_arr {t : Ty} {xs : List t.car} {A : Option Addr} (hff : ∀ b, F b → b < w.heap.size) (h : RD F w (.list t) xs [.slice A xs.length xs.length]) : Arr F w (fullBase t.nc (.slice A xs.length xs.length)) t xs := by
  obtain ⟨A', c, e, h1, h2, h3⟩ := h
  simp only [List.cons.injEq, Value.slice.injEq, and_true] at e
  obtain ⟨rfl, rfl⟩ := e.1, e.2.2
  by_cases hx : xs = []
  · subst hx
    cases A with
    | none => exact ⟨rfl, rfl, by simp [fullBase], by simp, fun h => by simp [fullBase] at h, fun h => by simp [fullBase] at h, fun h => by simp [fullBase] at h, fun h => by simp [fullBase] at h, fun h => by simp [fullBase] at h⟩
    | some ad => exact ⟨rfl, rfl, by simp [fullBase], by simp, fun h => by simp [fullBase] at h, fun h => by simp [fullBase] at h, fun h => by simp [fullBase] at h, fun h => by simp [fullBase] at h, fun h => by simp [fullBase] at h⟩
  · rcases h3 with h3 | ⟨b, o, rfl, hb, hr⟩
    · exact absurd h3 hx
    · exact ⟨rfl, rfl, Nat.le_refl _, h2, fun _ => rfl, fun _ => hr, fun _ => hff b hb, fun _ _ => ⟨rfl, hb⟩, fun _ h => by cases h⟩

theorem convReg_sound (hI : SR ds F0 S0 w0 β0 m0 s F β a w) {regs : List RSh} (hl : ren.length = regs.length) {k : Nat} {r : RSh} {x : Rn} {g : Reg} (hr : regs[k]? = some r) (hx : ren[k]? = some x) (h : convReg s ren x r = some g) :
    RegOk F (newβ β a.tmps regs ren) w (newβ β a.tmps regs ren k) g ∧ (∀ j ∈ g.refs, j < ren.length) ∧ ∀ b i, fp (newβ β a.tmps regs ren k) g b i → ∃ k', x = .old k' ∧ fp (β k') (rgOf s.hp k') b i := by
  have hpl := placed (F := F) (β := β) (w := w) regs hl s.tm a.tmps
  have hbase : newβ β a.tmps regs ren k = rnBase β a.tmps r.nc x := by simp [newβ, hx, hr]
  cases r with
  | cells src shs =>
    simp only [convReg] at h
    split at h
    · rename_i k'
      split at h
      · rename_i cs hk
        obtain ⟨cs', hc, rfl⟩ := Option.map_eq_some_iff.1 h
        have hok := hI.inv.ok k'
        rw [hk] at hok
        obtain ⟨vs, h1, h2, h3⟩ := hok
        have hcc := convCells_sound hpl hc h1
        have hb : newβ β a.tmps regs ren k = β k' := hpl.old k k' hx
        rw [hb]
        refine ⟨⟨vs, hcc.1, h2, h3⟩, hcc.2, fun b i hf => ⟨k', rfl, ?_⟩⟩
        rw [hk]
        obtain ⟨e1, e2, e3⟩ := hf
        exact ⟨e1, e2, by rw [← h1.len]; rw [← hcc.1.len] at e3; exact e3⟩
      · cases h
    · cases h
  | arr src t =>
    simp only [convReg] at h
    split at h
    · rename_i k'
      have hb : newβ β a.tmps regs ren k = β k' := hpl.old k k' hx
      rw [hb]
      have hok := hI.inv.ok k'
      split at h
      · rename_i t' xs hk
        split at h
        · rename_i e; subst e
          obtain rfl := Option.some.inj h
          rw [hk] at hok
          exact ⟨hok, fun j hj => by simp [Reg.refs] at hj, fun b i hf => ⟨k', rfl, by rw [hk]; exact hf⟩⟩
        · cases h
      · rename_i t' xs hk
        split at h
        · rename_i e; subst e
          obtain rfl := Option.some.inj h
          rw [hk] at hok
          exact ⟨hok.1, fun j hj => by simp [Reg.refs] at hj, fun b i hf => ⟨k', rfl, by rw [hk]; exact hf⟩⟩
        · cases h
      · cases h
    · obtain rfl := Option.some.inj h
      rw [hbase]
      refine ⟨⟨rfl, rfl, Nat.zero_le _, Nat.zero_le _, fun h => ?_, fun h => ?_, fun h => ?_, fun h => ?_, fun h => ?_⟩, fun j hj => by simp [Reg.refs] at hj, fun b i hf => ?_⟩
      all_goals first
        | (simp [rnBase] at h; done)
        | (obtain ⟨_, _, h1, h2⟩ := hf; simp [rnBase] at h2; done)
        | (obtain ⟨_, _, h1, h2⟩ := hf; simp [rnBase] at h1 h2; omega)
    · rename_i i0
      split at h
      · rename_i t' xs hi
        split at h
        · rename_i e; subst e
          obtain rfl := Option.some.inj h
          obtain ⟨A, hv, hrd⟩ := hI.full hi
          rw [hbase]
          simp only [rnBase, hv, RSh.nc]
          refine ⟨full_arr hI.inv.ff hrd, fun j hj => by simp [Reg.refs] at hj, fun b i hf => ?_⟩
          obtain ⟨h1, _⟩ := hf
          cases A <;> simp [fullBase] at h1
        · cases h
      · cases h
    · cases h
  | own src t =>
    simp only [convReg] at h
    split at h
    · rename_i k'
      have hb : newβ β a.tmps regs ren k = β k' := hpl.old k k' hx
      rw [hb]
      have hok := hI.inv.ok k'
      split at h
      · rename_i t' xs hk
        split at h
        · rename_i e; subst e
          obtain rfl := Option.some.inj h
          rw [hk] at hok
          exact ⟨hok, fun j hj => by simp [Reg.refs] at hj, fun b i hf => ⟨k', rfl, by rw [hk]; exact hf⟩⟩
        · cases h
      · cases h
    · obtain rfl := Option.some.inj h
      rw [hbase]
      refine ⟨⟨⟨rfl, rfl, Nat.zero_le _, Nat.zero_le _, fun h => ?_, fun h => ?_, fun h => ?_, fun h => ?_, fun h => ?_⟩, rfl⟩, fun j hj => by simp [Reg.refs] at hj, fun b i hf => ?_⟩
      all_goals first
        | (simp [rnBase] at h; done)
        | (obtain ⟨_, _, h1, h2⟩ := hf; simp [rnBase] at h2; done)
        | (obtain ⟨_, _, h1, h2⟩ := hf; simp [rnBase] at h1 h2; omega)
    · cases h
    · cases h
  | dead k' =>
    simp only [convReg] at h
    split at h
    · obtain rfl := Option.some.inj h
      exact ⟨trivial, fun j hj => by simp [Reg.refs] at hj, fun b i hf => hf.elim⟩
    · cases h
  | loop src shs =>
    simp only [convReg] at h
    split at h
    · rename_i k'
      split at h
      · rename_i L tm j hk
        obtain ⟨tm', hc, rfl⟩ := Option.map_eq_some_iff.1 h
        have hok := hI.inv.ok k'
        rw [hk] at hok
        obtain ⟨q, vs, hok⟩ := hok
        have hcc := convTm_sound hI.inv hpl hc hok.vals
        have hb : newβ β a.tmps regs ren k = β k' := hpl.old k k' hx
        rw [hb]
        exact ⟨⟨q, vs, hok.row, hok.tmps, hcc.1, hok.params, hok.assign, hok.body, hok.busy, hok.rest⟩, hcc.2, fun b i hf => ⟨k', rfl, by rw [hk]; exact hf⟩⟩
      · cases h
    · cases h

theorem convSlots_sound (hI : SR ds F0 S0 w0 β0 m0 s F β a w) {tm0 : List AV} {tmps : Array Value} (hp : Placed F β β' w tm0 a.tmps ren) : ∀ {l : List (Tmp × SSh)} {tm tm' : List AV}, convSlots s ren l tm = some tm' →
    (∀ t, t < tm.length → VR F β' w (tm.getD t .bad) (a.tmps.getD t undef) ∧ ∀ k ∈ (tm.getD t .bad).refs, k < ren.length) →
    tm'.length = tm.length ∧ ∀ t, t < tm.length → VR F β' w (tm'.getD t .bad) (a.tmps.getD t undef) ∧ ∀ k ∈ (tm'.getD t .bad).refs, k < ren.length
  | [], tm, tm', h, hv => by simp only [convSlots, Option.some.injEq] at h; subst h; exact ⟨rfl, hv⟩
  | (t0, sh) :: l, tm, tm', h, hv => by
    simp only [convSlots] at h
    split at h
    · rename_i av hc
      have hsl : VR F β w (s.tm.getD t0 .bad) (a.tmps.getD t0 undef) := by
        rcases Nat.lt_or_ge t0 s.tm.length with hlt | hge
        · exact (hI.slot t0 hlt).1
        · rw [show s.tm.getD t0 .bad = .bad by simp [List.getElem?_eq_none hge]]; unfold VR; trivial
      have hvw := viewF_sound hI.inv (fun _ _ => rfl) hsl
      have hcv := conv1_sound hp hc hvw.1 fun t ht => by obtain rfl := Option.some.inj ht; rfl
      have := convSlots_sound hI (tmps := tmps) hp h fun t ht => by
        rw [List.length_set] at ht
        by_cases e : t0 = t
        · subst e; rw [show (tm.set t0 av).getD t0 .bad = av by simp [ht]]; exact hcv
        · rw [getD_set_ne' _ _ _ _ _ e]; exact hv t ht
      rw [List.length_set] at this
      exact this
    · cases h

/-- What is shown of the state in the cut's shape holds of the state. -/
theorem cutSt_sound {c : Cut} {s' : St} (h : cutSt m0 c s = some s') (hI : SR ds F0 S0 w0 β0 m0 s F β a w) : ∃ β', SR ds F0 S0 w0 β0 m0 s' F β' a w := by
  unfold cutSt at h
  split at h
  · rename_i ren hren
    split at h
    · rename_i hdis'
      obtain ⟨hdis, hstay⟩ := hdis'
      have hstay' : ∀ k, k < m0 → ren[k]? = some (.old k) ∨ ren[k]? = some (.gone k) := fun k hk => by
        have := List.all_eq_true.1 hstay k (List.mem_range.2 hk)
        simpa using this
      split at h
      · rename_i hp hregs
        split at h
        · rename_i tm htm
          obtain rfl := Option.some.inj h
          have hl : ren.length = c.regs.length := by have := renAll_len hren; simpa using this
          obtain ⟨g1, g2, g3⟩ := convRegs_at hregs
          have hpl := placed (F := F) (β := β) (w := w) c.regs hl s.tm a.tmps
          have reg : ∀ k, (∃ r x, c.regs[k]? = some r ∧ ren[k]? = some x ∧ convReg s ren x r = some (rgOf hp k)) ∨ rgOf hp k = .dead := fun k => by
            cases hk : hp[k]? with
            | none => right; simp [rgOf, hk]
            | some g =>
              left
              obtain ⟨r, x, h1, h2, h3⟩ := g3 k g hk
              exact ⟨r, x, h1, h2, by rw [h3]; simp [rgOf, hk]⟩
          have fpx : ∀ k b i, fp (newβ β a.tmps c.regs ren k) (rgOf hp k) b i → ∃ k', ren[k]? = some (.old k') ∧ fp (β k') (rgOf s.hp k') b i := fun k b i hf => by
            rcases reg k with ⟨r, x, h1, h2, h3⟩ | hd
            · obtain ⟨k', rfl, h4⟩ := (convReg_sound hI hl h1 h2 h3).2.2 b i hf
              exact ⟨k', h2, h4⟩
            · rw [hd] at hf; exact hf.elim
          have hsl := convSlots_sound hI (tmps := a.tmps) hpl htm fun t ht => by
            rw [List.length_replicate] at ht
            rw [show (List.replicate s.tm.length AV.bad).getD t .bad = .bad by simp [ht]]
            exact ⟨by unfold VR; trivial, fun k hk => by simp [AV.refs] at hk⟩
          rw [List.length_replicate] at hsl
          refine ⟨newβ β a.tmps c.regs ren, ⟨fun k => ?_, fun i j b o o' hij h1 h2 => ?_, fun k b i hf => ?_, hI.inv.ff, fun k hk => ?_, fun i j hj => ?_⟩, ⟨hI.fr.chg, hI.fr.f0, hI.fr.f1, fun k b i hf => ?_, fun k hk => ((hstay' k hk).elim (fun h => hpl.old k k h) fun h => hpl.gone k k h).trans (hI.fr.bt k hk)⟩, ?_, hI.ds, ?_, fun t ht => ?_⟩
          · rcases reg k with ⟨r, x, h1, h2, h3⟩ | hd
            · exact (convReg_sound hI hl h1 h2 h3).1
            · rw [hd]; trivial
          · obtain ⟨i', e1, f1⟩ := fpx i b o h1
            obtain ⟨j', e2, f2⟩ := fpx j b o' h2
            refine hI.inv.dj i' j' b o o' (fun e => hij ?_) f1 f2
            subst e; exact olds_inj hdis e1 e2
          · obtain ⟨k', _, f1⟩ := fpx k b i hf
            exact hI.inv.nf k' b i f1
          · rcases Nat.lt_or_ge k hp.length with h | h
            · exact h
            · exact absurd (by simp [rgOf, List.getElem?_eq_none h]) hk
          · rcases reg i with ⟨r, x, h1, h2, h3⟩ | hd
            · have := (convReg_sound hI hl h1 h2 h3).2.1 j hj
              show j < hp.length
              omega
            · rw [hd] at hj; simp [Reg.refs] at hj
          · obtain ⟨k', _, f1⟩ := fpx k b i hf
            exact hI.fr.own k' b i f1
          · rw [hsl.1]; exact hI.size
          · show m0 ≤ hp.length
            rw [g1, ← hl]
            rcases Nat.eq_zero_or_pos m0 with h0 | h0
            · omega
            · have : m0 - 1 < ren.length := (hstay' (m0 - 1) (by omega)).elim (fun h => (List.getElem?_eq_some_iff.1 h).1) fun h => (List.getElem?_eq_some_iff.1 h).1
              omega
          · have ht' : t < tm.length := ht
            rw [hsl.1] at ht'
            have := hsl.2 t ht'
            refine ⟨this.1, fun k hk => ?_⟩
            have := this.2 k hk
            show k < hp.length
            omega
        · cases h
      · cases h
    · cases h
  · cases h
end
end Go.Abs
