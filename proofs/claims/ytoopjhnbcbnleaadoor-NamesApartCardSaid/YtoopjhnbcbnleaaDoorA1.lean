/-
What the abstract machine's values say of the machine's own: readings, and how they stay when memory turns.
-/
import Derived.Test.YtoopjhnbcbnleaaDoorA0
import Derived.Below
import Derived.Deep.AppendSrc
import Derived.Deep.MidRow
import Derived.Laws.IdiomCopy
namespace Go.Abs
open Go.RowKit
set_option linter.unusedVariables false

abbrev maxI : Nat := 9223372036854775807

/-- Elements that stand in line in memory from cell o of block b on. -/
def RowAt (w : World) (s : Nat) {α : Type} (R : α → List Value → Prop) (xs : List α) (b o : Nat) : Prop :=
  ∀ i x, xs[i]? = some x → ∃ vs, R x vs ∧ ∀ j v, vs[j]? = some v → w.cell? ⟨b, o + i * s + j, none⟩ = some v

/-- Data in cells. F: the blocks that nobody writes. -/
def RD (F : Nat → Prop) (w : World) : (t : Ty) → t.car → List Value → Prop
  | .int k, x, cs => cs = [.int k x] ∧ k.wrap x = x
  | .bool, x, cs => cs = [.bool x]
  | .str, x, cs => cs = [.string x] ∧ (x : ByteArray).size ≤ maxI
  | .unit, _, cs => cs = []
  | .pair a b, x, cs => ∃ c d, cs = c ++ d ∧ RD F w a x.1 c ∧ RD F w b x.2 d
  | .st a, x, cs => RD F w a x cs
  | .list a, xs, cs => ∃ A c, cs = [.slice A (xs : List a.car).length c] ∧ (xs : List a.car).length ≤ c ∧ (xs : List a.car).length ≤ maxI ∧
      ((xs : List a.car) = [] ∨ ∃ b o, A = some ⟨b, o, none⟩ ∧ F b ∧ RowAt w a.nc (RD F w a) xs b o)
  | .arr n a, xs, cs => (xs : List a.car).length = n ∧ ∃ css : List (List Value), cs = css.flatten ∧ css.length = n ∧ ∀ (i : Nat) (x : a.car) (c : List Value), (xs : List a.car)[i]? = some x → css[i]? = some c → RD F w a x c

theorem RD.len {F : Nat → Prop} {w : World} : ∀ {t : Ty} {x : t.car} {cs : List Value}, RD F w t x cs → cs.length = t.nc
  | .int _, _, _, h => by rw [h.1]; rfl
  | .bool, _, _, h => by rw [show _ = _ from h]; rfl
  | .str, _, _, h => by rw [h.1]; rfl
  | .unit, _, _, h => by rw [show _ = _ from h]; rfl
  | .pair a b, x, cs, h => by
    obtain ⟨c, d, rfl, h1, h2⟩ := h
    rw [List.length_append, RD.len h1, RD.len h2]; rfl
  | .st a, x, cs, h => RD.len (t := a) h
  | .list a, x, cs, h => by obtain ⟨A, c, rfl, _⟩ := h; rfl
  | .arr n a, xs, cs, h => by
    obtain ⟨hl, css, rfl, hn, hc⟩ := h
    have : ∀ c ∈ css, c.length = a.nc := by
      intro c hm
      obtain ⟨i, hi, rfl⟩ := List.getElem_of_mem hm
      have hx : i < (xs : List a.car).length := by omega
      exact RD.len (hc i _ _ (List.getElem?_eq_getElem hx) (List.getElem?_eq_getElem hi))
    rw [List.length_flatten]
    have : css.map List.length = List.replicate n a.nc := by
      rw [List.eq_replicate_iff]
      exact ⟨by simp [hn], fun b hb => by obtain ⟨c, hc, rfl⟩ := List.mem_map.1 hb; exact this c hc⟩
    rw [this]; simp [Ty.nc]

theorem RD.one {F : Nat → Prop} {w : World} : ∀ {t : Ty} {x : t.car} {cs : List Value}, RD F w t x cs → ∀ u ∈ cs, u.oneCell' = true
  | .int _, _, _, h => by rw [h.1]; simp [Value.oneCell']
  | .bool, _, _, h => by rw [show _ = _ from h]; simp [Value.oneCell']
  | .str, _, _, h => by rw [h.1]; simp [Value.oneCell']
  | .unit, _, _, h => by rw [show _ = _ from h]; simp
  | .pair a b, x, cs, h => by
    obtain ⟨c, d, rfl, h1, h2⟩ := h
    intro u hu
    rcases List.mem_append.1 hu with hu | hu
    · exact RD.one h1 u hu
    · exact RD.one h2 u hu
  | .st a, x, cs, h => RD.one (t := a) h
  | .list a, x, cs, h => by obtain ⟨A, c, rfl, _⟩ := h; simp [Value.oneCell']
  | .arr n a, xs, cs, h => by
    obtain ⟨hl, css, rfl, hn, hc⟩ := h
    intro u hu
    obtain ⟨c, hm, hu⟩ := List.mem_flatten.1 hu
    obtain ⟨i, hi, rfl⟩ := List.getElem_of_mem hm
    have hx : i < (xs : List a.car).length := by omega
    exact RD.one (hc i _ _ (List.getElem?_eq_getElem hx) (List.getElem?_eq_getElem hi)) u hu

/-- What lies in blocks of F is as it was. -/
def Same (F : Nat → Prop) (w w' : World) : Prop := ∀ b i, F b → ∀ v, w.cell? ⟨b, i, none⟩ = some v → w'.cell? ⟨b, i, none⟩ = some v

theorem RowAt.mono {w w' : World} {s : Nat} {α : Type} {R R' : α → List Value → Prop} {xs : List α} {b o : Nat} (h : RowAt w s R xs b o)
    (hR : ∀ x vs, x ∈ xs → R x vs → R' x vs) (hw : ∀ i v, w.cell? ⟨b, i, none⟩ = some v → w'.cell? ⟨b, i, none⟩ = some v) : RowAt w' s R' xs b o := by
  intro i x hi
  obtain ⟨vs, h1, h2⟩ := h i x hi
  exact ⟨vs, hR _ _ (List.mem_of_getElem? hi) h1, fun j v hj => hw _ _ (h2 j v hj)⟩

theorem RD.mono {F F' : Nat → Prop} {w w' : World} (hF : ∀ b, F b → F' b) (hw : Same F w w') :
    ∀ {t : Ty} {x : t.car} {cs : List Value}, RD F w t x cs → RD F' w' t x cs
  | .int _, _, _, h => h
  | .bool, _, _, h => h
  | .str, _, _, h => h
  | .unit, _, _, h => h
  | .pair a b, x, cs, h => by
    obtain ⟨c, d, rfl, h1, h2⟩ := h
    exact ⟨c, d, rfl, RD.mono hF hw h1, RD.mono hF hw h2⟩
  | .st a, x, cs, h => RD.mono (t := a) hF hw h
  | .list a, x, cs, h => by
    obtain ⟨A, c, rfl, h1, h2, h3⟩ := h
    refine ⟨A, c, rfl, h1, h2, h3.imp id ?_⟩
    rintro ⟨b, o, hA, hb, hr⟩
    exact ⟨b, o, hA, hF b hb, hr.mono (fun x vs _ h => RD.mono hF hw h) (fun i v h => hw b i hb v h)⟩
  | .arr n a, xs, cs, h => by
    obtain ⟨hl, css, rfl, hn, hc⟩ := h
    exact ⟨hl, css, rfl, hn, fun i x c h1 h2 => RD.mono hF hw (hc i x c h1 h2)⟩

/-- Where a region lies: a block, the first cell; of an array the elements' width, the length, the capacity, the address; bor: it leads into what nobody writes. -/
structure Base where
  b : Nat
  o : Nat
  s : Nat := 0
  len : Nat := 0
  cap : Nat := 0
  A : Option Addr := none
  bor : Bool := false
  deriving Inhabited


/-- The width of an array's elements, by its region. -/
def Reg.nc : Reg → Nat
  | .arr t _ | .own t _ => t.nc
  | _ => 0

mutual
/-- A value's meaning. -/
def VR (F : Nat → Prop) (β : Nat → Base) (w : World) : AV → Value → Prop
  | .dat t x, v => if t.isAgg = true then ∃ cs, v = .agg cs.toArray ∧ RD F w t x cs else RD F w t x [v]
  | .full t xs, v => ∃ A, v = .slice A (xs : List t.car).length (xs : List t.car).length ∧ RD F w (.list t) xs [v]
  | .ref k o, v => v = .pointer (some ⟨(β k).b, (β k).o + o, none⟩)
  | .elt t xs i o, v => ∃ b c, v = .pointer (some ⟨b, c + i * t.nc + o, none⟩) ∧ F b ∧ i < (xs : List t.car).length ∧ RowAt w t.nc (RD F w t) xs b c
  | .arr k, v => v = .slice (β k).A (β k).len (β k).cap
  | .aelt k i o, v => v = .pointer (some ⟨(β k).b, (β k).o + i * (β k).s + o, none⟩) ∧ i < (β k).len
  | .fn f first caps, v => ∃ x y, v = .func f (List.toArray x) (List.toArray y) ∧ VRs F β w first x ∧ VRs F β w caps y
  | .iface t a, v => ∃ u, v = .iface t u ∧ VR F β w a u
  | .agg cs, v => ∃ us, v = .agg (List.toArray us) ∧ CRs F β w cs us
  | .tup vs, v => ∃ us, v = .tuple (List.toArray us) ∧ VRs F β w vs us
  | .cst u, v => v = u ∧ u.oneCell' = true
  | .nul, v => ∃ A, v = .slice A 0 0
  | .yld k, v => v = .func (.yield (β k).b) #[] #[]
  | .bad, _ => True
def VRs (F : Nat → Prop) (β : Nat → Base) (w : World) : List AV → List Value → Prop
  | [], us => us = []
  | a :: as, us => ∃ u r, us = u :: r ∧ VR F β w a u ∧ VRs F β w as r
/-- Components in line. -/
def CRs (F : Nat → Prop) (β : Nat → Base) (w : World) : List AV → List Value → Prop
  | [], us => us = []
  | .dat t x :: cs, us => ∃ c r, us = c ++ r ∧ RD F w t x c ∧ CRs F β w cs r
  | .agg _ :: _, _ => False
  | c :: cs, us => ∃ u r, us = u :: r ∧ u.oneCell' = true ∧ VR F β w c u ∧ CRs F β w cs r
end
theorem mem_refsL {k : Nat} : ∀ {as : List AV}, k ∈ refsL as ↔ ∃ a ∈ as, k ∈ a.refs
  | [] => by simp [refsL]
  | a :: as => by simp [refsL, mem_refsL]

mutual
theorem VR.mono {F F' : Nat → Prop} {β β' : Nat → Base} {w w' : World} (hF : ∀ b, F b → F' b) (hw : Same F w w') : ∀ {a : AV} {v : Value}, (∀ k ∈ a.refs, β' k = β k) → VR F β w a v → VR F' β' w' a v
  | .dat t x, v, _, h => by
    unfold VR at h ⊢
    split
    · rename_i ht; rw [if_pos ht] at h
      obtain ⟨cs, e, h⟩ := h
      exact ⟨cs, e, h.mono hF hw⟩
    · rename_i ht; rw [if_neg ht] at h
      exact h.mono hF hw
  | .full t xs, v, _, h => by
    unfold VR at h ⊢
    obtain ⟨A, e, h⟩ := h
    exact ⟨A, e, h.mono hF hw⟩
  | .ref k o, v, hk, h => by
    unfold VR at h ⊢
    rw [hk k (by simp [AV.refs])]; exact h
  | .elt t xs i o, v, _, h => by
    unfold VR at h ⊢
    obtain ⟨b, c, e, hb, hi, hr⟩ := h
    exact ⟨b, c, e, hF b hb, hi, hr.mono (fun x vs _ h => h.mono hF hw) (fun i v h => hw b i hb v h)⟩
  | .arr k, v, hk, h => by
    unfold VR at h ⊢
    rw [hk k (by simp [AV.refs])]; exact h
  | .aelt k i o, v, hk, h => by
    unfold VR at h ⊢
    rw [hk k (by simp [AV.refs])]; exact h
  | .fn f fs cs, v, hk, h => by
    unfold VR at h ⊢
    obtain ⟨x, y, e, h1, h2⟩ := h
    exact ⟨x, y, e, VRs.mono hF hw (fun k hm => hk k (by simp [AV.refs, hm])) h1, VRs.mono hF hw (fun k hm => hk k (by simp [AV.refs, hm])) h2⟩
  | .iface t a, v, hk, h => by
    unfold VR at h ⊢
    obtain ⟨u, e, h⟩ := h
    exact ⟨u, e, VR.mono hF hw (fun k hm => hk k (by simpa [AV.refs] using hm)) h⟩
  | .agg cs, v, hk, h => by
    unfold VR at h ⊢
    obtain ⟨us, e, h⟩ := h
    exact ⟨us, e, CRs.mono hF hw (fun k hm => hk k (by simpa [AV.refs] using hm)) h⟩
  | .tup vs, v, hk, h => by
    unfold VR at h ⊢
    obtain ⟨us, e, h⟩ := h
    exact ⟨us, e, VRs.mono hF hw (fun k hm => hk k (by simpa [AV.refs] using hm)) h⟩
  | .cst u, v, _, h => by unfold VR at h ⊢; exact h
  | .nul, v, _, h => by unfold VR at h ⊢; exact h
  | .yld k, v, hk, h => by
    unfold VR at h ⊢
    rw [hk k (by simp [AV.refs])]; exact h
  | .bad, v, _, _ => by unfold VR; trivial
theorem VRs.mono {F F' : Nat → Prop} {β β' : Nat → Base} {w w' : World} (hF : ∀ b, F b → F' b) (hw : Same F w w') : ∀ {as : List AV} {us : List Value}, (∀ k ∈ refsL as, β' k = β k) → VRs F β w as us → VRs F' β' w' as us
  | [], us, _, h => by unfold VRs at h ⊢; exact h
  | a :: as, us, hk, h => by
    unfold VRs at h ⊢
    obtain ⟨u, r, e, h1, h2⟩ := h
    exact ⟨u, r, e, VR.mono hF hw (fun k hm => hk k (by simp [refsL, hm])) h1, VRs.mono hF hw (fun k hm => hk k (by simp [refsL, hm])) h2⟩
theorem CRs.mono {F F' : Nat → Prop} {β β' : Nat → Base} {w w' : World} (hF : ∀ b, F b → F' b) (hw : Same F w w') : ∀ {cs : List AV} {us : List Value}, (∀ k ∈ refsL cs, β' k = β k) → CRs F β w cs us → CRs F' β' w' cs us
  | [], us, _, h => by unfold CRs at h ⊢; exact h
  | c :: cs, us, hk, h => by
    have h1 : ∀ k ∈ c.refs, β' k = β k := fun k hm => hk k (by simp [refsL, hm])
    have h2 : ∀ k ∈ refsL cs, β' k = β k := fun k hm => hk k (by simp [refsL, hm])
    cases c with
    | dat t x =>
      unfold CRs at h ⊢
      obtain ⟨c, r, e, a, b⟩ := h
      exact ⟨c, r, e, a.mono hF hw, CRs.mono hF hw h2 b⟩
    | agg _ => unfold CRs at h; exact h.elim
    | _ =>
      unfold CRs at h ⊢
      obtain ⟨u, r, e, o, a, b⟩ := h
      exact ⟨u, r, e, o, VR.mono hF hw h1 a, CRs.mono hF hw h2 b⟩
end

/-- One component's cells. -/
def CR (F : Nat → Prop) (β : Nat → Base) (w : World) (c : AV) (us : List Value) : Prop := CRs F β w [c] us

theorem CRs.len {F : Nat → Prop} {β : Nat → Base} {w : World} : ∀ {cs : List AV} {us : List Value}, CRs F β w cs us → us.length = wAll cs
  | [], us, h => by unfold CRs at h; subst h; rfl
  | c :: cs, us, h => by
    cases c with
    | dat t x =>
      unfold CRs at h
      obtain ⟨c, r, rfl, a, b⟩ := h
      rw [List.length_append, a.len, CRs.len b]; rfl
    | agg _ => unfold CRs at h; exact h.elim
    | _ =>
      unfold CRs at h
      obtain ⟨u, r, rfl, o, a, b⟩ := h
      rw [List.length_cons, CRs.len b]; simp [wAll, AV.w]; omega

theorem CRs.one {F : Nat → Prop} {β : Nat → Base} {w : World} : ∀ {cs : List AV} {us : List Value}, CRs F β w cs us → ∀ u ∈ us, u.oneCell' = true
  | [], us, h => by unfold CRs at h; subst h; simp
  | c :: cs, us, h => by
    cases c with
    | dat t x =>
      unfold CRs at h
      obtain ⟨c, r, rfl, a, b⟩ := h
      intro u hu
      rcases List.mem_append.1 hu with hu | hu
      · exact a.one u hu
      · exact CRs.one b u hu
    | agg _ => unfold CRs at h; exact h.elim
    | _ =>
      unfold CRs at h
      obtain ⟨u, r, rfl, o, a, b⟩ := h
      intro x hx
      rcases List.mem_cons.1 hx with rfl | hx
      · exact o
      · exact CRs.one b x hx

theorem CRs.append {F : Nat → Prop} {β : Nat → Base} {w : World} : ∀ {as bs : List AV} {us : List Value},
    CRs F β w (as ++ bs) us ↔ ∃ x y, us = x ++ y ∧ CRs F β w as x ∧ CRs F β w bs y
  | [], bs, us => by
    constructor
    · intro h; exact ⟨[], us, rfl, by unfold CRs; rfl, h⟩
    · rintro ⟨x, y, rfl, h, k⟩; unfold CRs at h; subst h; exact k
  | c :: as, bs, us => by
    cases c with
    | dat t x =>
      constructor
      · intro h
        rw [List.cons_append] at h
        unfold CRs at h
        obtain ⟨c, r, rfl, a, b⟩ := h
        obtain ⟨x, y, rfl, h1, h2⟩ := CRs.append.1 b
        exact ⟨c ++ x, y, by simp, by unfold CRs; exact ⟨c, x, rfl, a, h1⟩, h2⟩
      · rintro ⟨x, y, rfl, h, k⟩
        unfold CRs at h
        obtain ⟨c, r, rfl, a, b⟩ := h
        rw [List.cons_append]
        unfold CRs
        exact ⟨c, r ++ y, by simp, a, CRs.append.2 ⟨r, y, rfl, b, k⟩⟩
    | agg l =>
      constructor
      · intro h; rw [List.cons_append] at h; unfold CRs at h; exact h.elim
      · rintro ⟨x, y, rfl, h, k⟩; unfold CRs at h; exact h.elim
    | _ =>
      constructor
      · intro h
        rw [List.cons_append] at h
        unfold CRs at h
        obtain ⟨u, r, rfl, o, a, b⟩ := h
        obtain ⟨x, y, rfl, h1, h2⟩ := CRs.append.1 b
        exact ⟨u :: x, y, by simp, by unfold CRs; exact ⟨u, x, rfl, o, a, h1⟩, h2⟩
      · rintro ⟨x, y, rfl, h, k⟩
        unfold CRs at h
        obtain ⟨u, r, rfl, o, a, b⟩ := h
        rw [List.cons_append]
        unfold CRs
        exact ⟨u, r ++ y, by simp, o, a, CRs.append.2 ⟨r, y, rfl, b, k⟩⟩

theorem CRs.cons_inv {F : Nat → Prop} {β : Nat → Base} {w : World} {c : AV} {cs : List AV} {us : List Value} (h : CRs F β w (c :: cs) us) :
    ∃ x y, us = x ++ y ∧ CRs F β w [c] x ∧ CRs F β w cs y := CRs.append (as := [c]).1 h

theorem CRs.explode {F : Nat → Prop} {β : Nat → Base} {w : World} {c : AV} {us : List Value} (h : CRs F β w [c] us) : CRs F β w c.explode us := by
  unfold AV.explode
  split
  · unfold CRs at h
    obtain ⟨c, r, rfl, ⟨p, q, rfl, h1, h2⟩, b⟩ := h
    unfold CRs at b; subst b
    unfold CRs
    exact ⟨p, q, by simp, h1, by unfold CRs; exact ⟨q, [], by simp, h2, by unfold CRs; rfl⟩⟩
  · unfold CRs at h ⊢
    exact h
  · rename_i n a x
    unfold CRs at h
    obtain ⟨c, r, rfl, ⟨hl, css, rfl, hn, hc⟩, b⟩ := h
    unfold CRs at b; subst b
    rw [List.append_nil]
    have key : ∀ (m i : Nat), i + m = n → CRs F β w ((List.range' i m).map fun i => AV.dat a ((x : List a.car).getD i a.dflt)) (css.drop i).flatten := by
      intro m
      induction m with
      | zero => intro i hi; rw [List.drop_eq_nil_of_le (by omega)]; simp; unfold CRs; rfl
      | succ m ih =>
        intro i hi
        rw [List.range'_succ, List.map_cons, List.drop_eq_getElem_cons (by omega), List.flatten_cons]
        unfold CRs
        refine ⟨_, _, rfl, ?_, by simpa using ih (i + 1) (by omega)⟩
        have hx : i < (x : List a.car).length := by omega
        refine hc i _ _ ?_ (List.getElem?_eq_getElem (by omega))
        rw [List.getD_eq_getElem?_getD, List.getElem?_eq_getElem hx]; rfl
    have := key n 0 (by omega)
    rw [List.drop_zero] at this
    rw [List.range_eq_range']; exact this
  · exact h

theorem CRs.split {F : Nat → Prop} {β : Nat → Base} {w : World} : ∀ {n : Nat} {cs : List AV} {o : Nat} {p q : List AV} {us : List Value},
    Abs.split n cs o = some (p, q) → CRs F β w cs us → ∃ x y, us = x ++ y ∧ x.length = o ∧ CRs F β w p x ∧ CRs F β w q y
  | 0, cs, o, p, q, us, h, _ => by simp [Abs.split] at h
  | n + 1, cs, 0, p, q, us, h, hc => by
    simp [Abs.split] at h
    obtain ⟨rfl, rfl⟩ := h
    exact ⟨[], us, rfl, rfl, by unfold CRs; rfl, hc⟩
  | n + 1, [], o + 1, p, q, us, h, _ => by simp [Abs.split] at h
  | n + 1, c :: cs, o + 1, p, q, us, h, hc => by
    simp only [Abs.split] at h
    obtain ⟨x, y, rfl, h1, h2⟩ := hc.cons_inv
    split at h
    · rename_i hw
      cases hs : Abs.split n cs (o + 1 - c.w) with
      | none => simp [hs] at h
      | some r =>
        obtain ⟨p', q'⟩ := r
        simp [hs] at h
        obtain ⟨rfl, rfl⟩ := h
        obtain ⟨x', y', rfl, hl, h3, h4⟩ := CRs.split hs h2
        have hx := h1.len
        simp [wAll] at hx
        exact ⟨x ++ x', y', by simp, by rw [List.length_append, hl, hx]; omega, CRs.append (as := [c]).2 ⟨x, x', rfl, h1, h3⟩, h4⟩
    · exact CRs.split h (CRs.append.2 ⟨x, y, rfl, h1.explode, h2⟩)
-- ---------------------------------------------------------------- memory
/-- The cells that a region may write. -/
def fp (B : Base) : Reg → Nat → Nat → Prop
  | .cells cs, b, i => b = B.b ∧ B.o ≤ i ∧ i < B.o + wAll cs
  | .arr t _, b, i | .own t _, b, i => B.bor = false ∧ b = B.b ∧ B.o ≤ i ∧ i < B.o + B.cap * t.nc
  | .loop _ _ _, b, i => b = B.b ∧ i = 0
  | .fz _ _, _, _ | .dead, _, _ => False

/-- An array's reading. -/
structure Arr (F : Nat → Prop) (w : World) (B : Base) (t : Ty) (xs : List t.car) : Prop where
  s : B.s = t.nc
  len : B.len = xs.length
  cap : xs.length ≤ B.cap
  max : xs.length ≤ maxI
  adr : 0 < B.cap → B.A = some ⟨B.b, B.o, none⟩
  row : 0 < B.cap → RowAt w t.nc (RD F w t) xs B.b B.o
  lt : 0 < B.cap → B.b < w.heap.size
  bor : 0 < B.cap → B.bor = true → B.cap = xs.length ∧ F B.b
  own : 0 < B.cap → B.bor = false → ∀ i, i < B.cap * t.nc → (w.cell? ⟨B.b, B.o + i, none⟩).isSome = true ∧ w.frozen? ⟨B.b, B.o + i, none⟩ = false

/-- The code of a jump that a round has left. -/
def jumpOf (j : Int) : Option Code := if j = 0 then none else if j = 1 then some .ret else some (.exit (j - 2).toNat)

/-- A loop's record. -/
structure LoopOk (F : Nat → Prop) (β : Nat → Base) (w : World) (B : Base) (L : LoopS) (tm : List AV) (j : Int) (r : Loop) (vs : List Value) : Prop where
  row : w.heap[B.b]? = some (.loop r)
  tmps : r.tmps = vs.toArray
  vals : VRs F β w tm vs
  params : r.params = L.params
  assign : r.assign = L.assign
  body : r.body = L.body
  busy : j = -1 → r.state = .busy
  rest : j ≠ -1 → r.state = (if j = 0 then .ready else .done) ∧ r.pending = jumpOf j

def RegOk (F : Nat → Prop) (β : Nat → Base) (w : World) (B : Base) : Reg → Prop
  | .cells cs => ∃ vs, CRs F β w cs vs ∧ B.b < w.heap.size ∧ ∀ i v, vs[i]? = some v → w.cell? ⟨B.b, B.o + i, none⟩ = some v ∧ w.frozen? ⟨B.b, B.o + i, none⟩ = false
  | .arr t xs => Arr F w B t xs
  | .own t xs => Arr F w B t xs ∧ B.bor = false
  | .fz t xs => RD F w (.list t) xs [.slice B.A B.len B.cap]
  | .loop L tm j => ∃ r vs, LoopOk F β w B L tm j r vs
  | .dead => True

/-- The world w' is w but for cells in S, and for what is new. -/
structure Chg (S : Nat → Nat → Prop) (w w' : World) : Prop where
  os : w'.os = w.os
  tape : w'.tape = w.tape
  output : w'.output = w.output
  size : w.heap.size ≤ w'.heap.size
  block : ∀ b, b < w.heap.size → (∀ i, ¬ S b i) → w'.heap[b]? = w.heap[b]?
  cell : ∀ b i, b < w.heap.size → ¬ S b i → w'.cell? ⟨b, i, none⟩ = w.cell? ⟨b, i, none⟩
  there : ∀ b i, b < w.heap.size → (w.cell? ⟨b, i, none⟩).isSome = true → (w'.cell? ⟨b, i, none⟩).isSome = true
  frz : ∀ b i, b < w.heap.size → w'.frozen? ⟨b, i, none⟩ = w.frozen? ⟨b, i, none⟩

theorem Chg.refl (S : Nat → Nat → Prop) (w : World) : Chg S w w := ⟨rfl, rfl, rfl, Nat.le_refl _, fun _ _ _ => rfl, fun _ _ _ _ => rfl, fun _ _ _ h => h, fun _ _ _ => rfl⟩

theorem Chg.mono {S S' : Nat → Nat → Prop} {w w' : World} (h : Chg S w w') (hS : ∀ b i, b < w.heap.size → S b i → S' b i) : Chg S' w w' :=
  ⟨h.os, h.tape, h.output, h.size, fun b hb hn => h.block b hb fun i hi => hn i (hS b i hb hi), fun b i hb hn => h.cell b i hb fun hi => hn (hS b i hb hi), h.there, h.frz⟩

theorem Chg.trans {S : Nat → Nat → Prop} {a b c : World} (h : Chg S a b) (k : Chg S b c) : Chg S a c :=
  ⟨k.os.trans h.os, k.tape.trans h.tape, k.output.trans h.output, Nat.le_trans h.size k.size,
   fun i hi hn => (k.block i (Nat.lt_of_lt_of_le hi h.size) hn).trans (h.block i hi hn),
   fun i j hi hn => (k.cell i j (Nat.lt_of_lt_of_le hi h.size) hn).trans (h.cell i j hi hn),
   fun i j hi hs => k.there i j (Nat.lt_of_lt_of_le hi h.size) (h.there i j hi hs),
   fun i j hi => (k.frz i j (Nat.lt_of_lt_of_le hi h.size)).trans (h.frz i j hi)⟩

theorem Chg.below {w w' : World} (h : Chg (fun _ _ => False) w w') : Below w.heap.size w w' :=
  ⟨h.os, h.tape, h.output, h.size, fun k hk => h.block k hk fun _ h => h⟩

theorem Chg.of_below {w w' : World} (h : Below w.heap.size w w') : Chg (fun _ _ => False) w w' :=
  ⟨h.os, h.tape, h.output, h.size, fun b hb _ => h.block b hb, fun b i hb _ => h.cell (p := ⟨b, i, none⟩) hb,
   fun b i hb hs => by rw [h.cell (p := ⟨b, i, none⟩) hb]; exact hs, fun b i hb => h.frozen (p := ⟨b, i, none⟩) hb⟩

/-- The state of memory: what nobody writes (F), the regions (rg, at their places β), which numbers of regions are taken (al). -/
structure Inv (F : Nat → Prop) (β : Nat → Base) (al : Nat → Prop) (rg : Nat → Reg) (w : World) : Prop where
  ok : ∀ k, RegOk F β w (β k) (rg k)
  dj : ∀ k k' b i j, k ≠ k' → fp (β k) (rg k) b i → fp (β k') (rg k') b j → False
  nf : ∀ k b i, fp (β k) (rg k) b i → ¬ F b
  ff : ∀ b, F b → b < w.heap.size
  tk : ∀ k, rg k ≠ .dead → al k
  sc : ∀ k j, j ∈ (rg k).refs → al j

theorem RegOk.lt {F : Nat → Prop} {β : Nat → Base} {w : World} {B : Base} {r : Reg} (h : RegOk F β w B r) {b i : Nat} (hf : fp B r b i) : b < w.heap.size := by
  cases r with
  | cells cs => obtain ⟨vs, _, hl, _⟩ := h; obtain ⟨rfl, _⟩ := hf; exact hl
  | arr t xs =>
    obtain ⟨_, rfl, h1, h2⟩ := hf
    exact Arr.lt h (Nat.pos_of_ne_zero fun e => by rw [e] at h2; simp at h2; omega)
  | own t xs =>
    obtain ⟨_, rfl, h1, h2⟩ := hf
    exact h.1.lt (Nat.pos_of_ne_zero fun e => by rw [e] at h2; simp at h2; omega)
  | loop L tm j =>
    obtain ⟨rfl, _⟩ := hf
    obtain ⟨r, vs, h⟩ := h
    exact (Array.getElem?_eq_some_iff.1 h.row).1
  | fz t xs => exact hf.elim
  | dead => exact hf.elim

theorem Arr.keep {F F' : Nat → Prop} {w w' : World} {B : Base} {t : Ty} {xs : List t.car} (h : Arr F w B t xs) (hF : ∀ b, F b → F' b) (hs : Same F w w')
    (hsz : w.heap.size ≤ w'.heap.size) (hc : ∀ b i, fp B (.arr t xs) b i → w'.cell? ⟨b, i, none⟩ = w.cell? ⟨b, i, none⟩ ∧ w'.frozen? ⟨b, i, none⟩ = w.frozen? ⟨b, i, none⟩) : Arr F' w' B t xs where
  s := h.s
  len := h.len
  cap := h.cap
  max := h.max
  adr := h.adr
  lt := fun hn => Nat.lt_of_lt_of_le (h.lt hn) hsz
  bor := fun hn hb => ⟨(h.bor hn hb).1, hF _ (h.bor hn hb).2⟩
  own := fun hn hb i hi => by
    have := h.own hn hb i hi
    have k := hc B.b (B.o + i) ⟨hb, rfl, by omega, by omega⟩
    rw [k.1, k.2]; exact this
  row := fun hn => by
    intro i x hx
    obtain ⟨vs, hr, hv⟩ := h.row hn i x hx
    refine ⟨vs, hr.mono hF hs, fun j v hj => ?_⟩
    cases hb : B.bor with
    | true => exact hs _ _ (h.bor hn hb).2 v (hv j v hj)
    | false =>
      have hi : i < xs.length := (List.getElem?_eq_some_iff.1 hx).1
      have hjl : j < vs.length := (List.getElem?_eq_some_iff.1 hj).1
      rw [hr.len] at hjl
      have : i * t.nc + j < B.cap * t.nc := by
        have h1 : (i + 1) * t.nc ≤ B.cap * t.nc := Nat.mul_le_mul_right _ (by have := h.cap; omega)
        rw [Nat.add_mul, Nat.one_mul] at h1
        omega
      rw [(hc B.b (B.o + i * t.nc + j) ⟨hb, rfl, by omega, by omega⟩).1]
      exact hv j v hj

/-- A loop's record, which is no cells. -/
def Reg.isLoop : Reg → Bool
  | .loop _ _ _ => true
  | _ => false

theorem RegOk.keep {F F' : Nat → Prop} {β β' : Nat → Base} {w w' : World} {B : Base} {r : Reg} (h : RegOk F β w B r) (hF : ∀ b, F b → F' b) (hs : Same F w w')
    (hβ : ∀ k ∈ r.refs, β' k = β k) (hsz : w.heap.size ≤ w'.heap.size)
    (hc : ∀ b i, fp B r b i → w'.cell? ⟨b, i, none⟩ = w.cell? ⟨b, i, none⟩ ∧ w'.frozen? ⟨b, i, none⟩ = w.frozen? ⟨b, i, none⟩ ∧ (r.isLoop = true → w'.heap[b]? = w.heap[b]?)) : RegOk F' β' w' B r := by
  cases r with
  | cells cs =>
    obtain ⟨vs, h1, h2, h3⟩ := h
    refine ⟨vs, h1.mono hF hs hβ, Nat.lt_of_lt_of_le h2 hsz, fun i v hv => ?_⟩
    have hi : i < vs.length := (List.getElem?_eq_some_iff.1 hv).1
    have k := hc B.b (B.o + i) ⟨rfl, by omega, by rw [← h1.len]; omega⟩
    rw [k.1, k.2.1]; exact h3 i v hv
  | arr t xs => exact Arr.keep h hF hs hsz fun b i hf => ⟨(hc b i hf).1, (hc b i hf).2.1⟩
  | own t xs => exact ⟨Arr.keep h.1 hF hs hsz fun b i hf => ⟨(hc b i hf).1, (hc b i hf).2.1⟩, h.2⟩
  | loop L tm j =>
    obtain ⟨r, vs, h⟩ := h
    exact ⟨r, vs, by rw [(hc B.b 0 ⟨rfl, rfl⟩).2.2 rfl]; exact h.row, h.tmps, h.vals.mono hF hs hβ, h.params, h.assign, h.body, h.busy, h.rest⟩
  | fz t xs => exact RD.mono hF hs h
  | dead => trivial

theorem Inv.same {F : Nat → Prop} {β : Nat → Base} {al : Nat → Prop} {rg : Nat → Reg} {w w' : World} {S : Nat → Nat → Prop} (h : Inv F β al rg w) (hc : Chg S w w')
    (hS : ∀ b i, S b i → ∃ k, fp (β k) (rg k) b i) : Same F w w' := by
  intro b i hb v hv
  rw [hc.cell b i (h.ff b hb) fun hs => by obtain ⟨k, hk⟩ := hS b i hs; exact h.nf k b i hk hb]
  exact hv

theorem upd_same {α : Type} (f : Nat → α) (k : Nat) (x : α) : upd f k x k = x := by simp [upd]
theorem upd_ne {α : Type} (f : Nat → α) (k : Nat) (x : α) {j : Nat} (h : j ≠ k) : upd f k x j = f j := by simp [upd, h]


/-- The world has only drawn, or has new blocks: every region stays. -/
theorem Inv.keep {F : Nat → Prop} {β : Nat → Base} {al : Nat → Prop} {rg : Nat → Reg} {w w' : World} (h : Inv F β al rg w) (hc : Chg (fun _ _ => False) w w') : Inv F β al rg w' where
  ok := fun k => (h.ok k).keep (fun _ h => h) (h.same hc fun _ _ h => h.elim) (fun _ _ => rfl) hc.size fun b i hf => by
    have hl := (h.ok k).lt hf
    exact ⟨hc.cell b i hl fun h => h, hc.frz b i hl, fun _ => hc.block b hl fun _ h => h⟩
  dj := h.dj
  nf := h.nf
  ff := fun b hb => Nat.lt_of_lt_of_le (h.ff b hb) hc.size
  tk := h.tk
  sc := h.sc

/-- A new region nk, in a new block. -/
theorem Inv.fresh {F : Nat → Prop} {β : Nat → Base} {al : Nat → Prop} {rg : Nat → Reg} {w w' : World} (h : Inv F β al rg w) (hc : Chg (fun _ _ => False) w w') {nk : Nat} (hn : ¬ al nk)
    {B : Base} {r : Reg} (hr : RegOk F (upd β nk B) w' B r) (hb : ∀ b i, fp B r b i → w.heap.size ≤ b) (hsc : ∀ j ∈ r.refs, al j ∨ j = nk) :
    Inv F (upd β nk B) (fun k => al k ∨ k = nk) (upd rg nk r) w' where
  ok := fun k => by
    by_cases hk : k = nk
    · subst hk; rw [upd_same, upd_same]; exact hr
    · rw [upd_ne _ _ _ hk, upd_ne _ _ _ hk]
      refine (h.ok k).keep (fun _ h => h) (h.same hc fun _ _ h => h.elim) (fun j hj => upd_ne _ _ _ fun e => ?_) hc.size fun b i hf => ?_
      · subst e; exact hn (h.sc k _ hj)
      · have hl := (h.ok k).lt hf
        exact ⟨hc.cell b i hl fun h => h, hc.frz b i hl, fun _ => hc.block b hl fun _ h => h⟩
  dj := fun k k' b i i' hne h1 h2 => by
    by_cases hk : k = nk
    · subst hk
      rw [upd_same, upd_same] at h1
      rw [upd_ne _ _ _ (Ne.symm hne), upd_ne _ _ _ (Ne.symm hne)] at h2
      have := (h.ok k').lt h2; have := hb b i h1; omega
    · rw [upd_ne _ _ _ hk, upd_ne _ _ _ hk] at h1
      by_cases hk' : k' = nk
      · subst hk'
        rw [upd_same, upd_same] at h2
        have := (h.ok k).lt h1; have := hb b i' h2; omega
      · rw [upd_ne _ _ _ hk', upd_ne _ _ _ hk'] at h2
        exact h.dj k k' b i i' hne h1 h2
  nf := fun k b i hf hFb => by
    by_cases hk : k = nk
    · subst hk; rw [upd_same, upd_same] at hf
      have := h.ff b hFb; have := hb b i hf; omega
    · rw [upd_ne _ _ _ hk, upd_ne _ _ _ hk] at hf
      exact h.nf k b i hf hFb
  ff := fun b hb => Nat.lt_of_lt_of_le (h.ff b hb) hc.size
  tk := fun k hk => by
    by_cases e : k = nk
    · exact .inr e
    · rw [upd_ne _ _ _ e] at hk; exact .inl (h.tk k hk)
  sc := fun k j hj => by
    by_cases e : k = nk
    · subst e; rw [upd_same] at hj; exact hsc j hj
    · rw [upd_ne _ _ _ e] at hj; exact .inl (h.sc k j hj)

/-- Region k turned in place: cells of its own alone. -/
theorem Inv.turn {F : Nat → Prop} {β : Nat → Base} {al : Nat → Prop} {rg : Nat → Reg} {w w' : World} (h : Inv F β al rg w) {k : Nat} {r : Reg} (hc : Chg (fp (β k) (rg k)) w w')
    (hr : RegOk F β w' (β k) r) (hb : ∀ b i, fp (β k) r b i → fp (β k) (rg k) b i) (hsc : ∀ j ∈ r.refs, al j) (hl : al k) : Inv F β al (upd rg k r) w' where
  ok := fun j => by
    by_cases e : j = k
    · subst e; rw [upd_same]; exact hr
    · rw [upd_ne _ _ _ e]
      refine (h.ok j).keep (fun _ h => h) (h.same hc fun _ _ h => ⟨k, h⟩) (fun _ _ => rfl) hc.size fun b i hf => ?_
      have hl := (h.ok j).lt hf
      exact ⟨hc.cell b i hl fun hk => h.dj j k b i i e hf hk, hc.frz b i hl, fun _ => hc.block b hl fun i' hk => h.dj j k b i i' e hf hk⟩
  dj := fun i j b o o' hne h1 h2 => by
    have back : ∀ i o, fp (β i) (upd rg k r i) b o → fp (β i) (rg i) b o := fun i o hi => by
      by_cases e : i = k
      · subst e; rw [upd_same] at hi; exact hb _ _ hi
      · rwa [upd_ne _ _ _ e] at hi
    exact h.dj i j b o o' hne (back i o h1) (back j o' h2)
  nf := fun i b o hi => by
    by_cases e : i = k
    · subst e; rw [upd_same] at hi; exact h.nf _ b o (hb _ _ hi)
    · rw [upd_ne _ _ _ e] at hi; exact h.nf i b o hi
  ff := fun b hb => Nat.lt_of_lt_of_le (h.ff b hb) hc.size
  tk := fun i hi => by
    by_cases e : i = k
    · subst e; exact hl
    · rw [upd_ne _ _ _ e] at hi; exact h.tk i hi
  sc := fun i j hj => by
    by_cases e : i = k
    · subst e; rw [upd_same] at hj; exact hsc j hj
    · rw [upd_ne _ _ _ e] at hj; exact h.sc i j hj
/-- Region k is gone, region nk has come: in its place, or in new memory. -/
theorem Inv.move {F : Nat → Prop} {β : Nat → Base} {al : Nat → Prop} {rg : Nat → Reg} {w w' : World} (h : Inv F β al rg w) {k nk : Nat} {B : Base} {r : Reg} (hc : Chg (fp (β k) (rg k)) w w') (hn : ¬ al nk) (hl : al k)
    (hr : RegOk F (upd β nk B) w' B r) (hb : ∀ b i, fp B r b i → fp (β k) (rg k) b i ∨ w.heap.size ≤ b) (hsc : ∀ j ∈ r.refs, al j ∨ j = nk) :
    Inv F (upd β nk B) (fun j => al j ∨ j = nk) (upd (upd rg k .dead) nk r) w' := by
  have hne : k ≠ nk := fun e => hn (e ▸ hl)
  have off : ∀ j, j ≠ nk → j ≠ k → upd (upd rg k .dead) nk r j = rg j := fun j h1 h2 => by rw [upd_ne _ _ _ h1, upd_ne _ _ _ h2]
  have atk : upd (upd rg k .dead) nk r k = .dead := by rw [upd_ne _ _ _ hne, upd_same]
  have clash : ∀ j b i i', j ≠ nk → j ≠ k → fp (β j) (rg j) b i → fp B r b i' → False := fun j b i i' h1 h2 h3 h4 => by
    rcases hb b i' h4 with h5 | h5
    · exact h.dj j k b i i' h2 h3 h5
    · have := (h.ok j).lt h3; omega
  exact
  { ok := fun j => by
      by_cases e : j = nk
      · subst e; rw [upd_same, upd_same]; exact hr
      · by_cases e2 : j = k
        · subst e2; rw [atk]; trivial
        · rw [off j e e2, upd_ne _ _ _ e]
          refine (h.ok j).keep (fun _ h => h) (h.same hc fun _ _ h => ⟨k, h⟩) (fun i hi => upd_ne _ _ _ fun e' => hn (e' ▸ h.sc j i hi)) hc.size fun b i hf => ?_
          have hl := (h.ok j).lt hf
          exact ⟨hc.cell b i hl fun hk => h.dj j k b i i e2 hf hk, hc.frz b i hl, fun _ => hc.block b hl fun i' hk => h.dj j k b i i' e2 hf hk⟩
    dj := fun i j b o o' hij h1 h2 => by
      by_cases e1 : i = nk
      · subst e1; rw [upd_same, upd_same] at h1
        by_cases e2 : j = k
        · subst e2; rw [atk] at h2; exact h2
        · have e3 : j ≠ i := Ne.symm hij
          rw [off j e3 e2, upd_ne _ _ _ e3] at h2
          exact clash j b o' o e3 e2 h2 h1
      · by_cases e4 : i = k
        · subst e4; rw [atk] at h1; exact h1
        · rw [off i e1 e4, upd_ne _ _ _ e1] at h1
          by_cases e5 : j = nk
          · subst e5; rw [upd_same, upd_same] at h2
            exact clash i b o o' e1 e4 h1 h2
          · by_cases e6 : j = k
            · subst e6; rw [atk] at h2; exact h2
            · rw [off j e5 e6, upd_ne _ _ _ e5] at h2
              exact h.dj i j b o o' hij h1 h2
    nf := fun j b i hf hF => by
      by_cases e : j = nk
      · subst e; rw [upd_same, upd_same] at hf
        rcases hb b i hf with h5 | h5
        · exact h.nf k b i h5 hF
        · have := h.ff b hF; omega
      · by_cases e2 : j = k
        · subst e2; rw [atk] at hf; exact hf
        · rw [off j e e2, upd_ne _ _ _ e] at hf
          exact h.nf j b i hf hF
    ff := fun b hb => Nat.lt_of_lt_of_le (h.ff b hb) hc.size
    tk := fun j hj => by
      by_cases e : j = nk
      · exact .inr e
      · by_cases e2 : j = k
        · subst e2; exact .inl hl
        · rw [off j e e2] at hj; exact .inl (h.tk j hj)
    sc := fun i j hj => by
      by_cases e : i = nk
      · subst e; rw [upd_same] at hj; exact hsc j hj
      · by_cases e2 : i = k
        · subst e2; rw [atk] at hj; simp [Reg.refs] at hj
        · rw [off i e e2] at hj; exact .inl (h.sc i j hj) }
end Go.Abs
