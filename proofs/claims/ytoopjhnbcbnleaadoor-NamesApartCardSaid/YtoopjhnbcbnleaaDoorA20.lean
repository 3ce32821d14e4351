/-
What may be taken for granted of data that lie in memory: numbers in their range, lengths that a machine can hold.
-/
import Derived.Test.YtoopjhnbcbnleaaDoorA19
namespace Go.Abs
open Go.RowKit
set_option linter.unusedVariables false

def Ty.ok : (t : Ty) → t.car → Prop
  | .int k, x => k.min ≤ (x : Int) ∧ (x : Int) ≤ k.max
  | .bool, _ => True
  | .str, x => (x : ByteArray).size ≤ 9223372036854775807
  | .unit, _ => True
  | .pair a b, x => a.ok x.1 ∧ b.ok x.2
  | .st a, x => a.ok x
  | .list a, xs => (xs : List a.car).length ≤ 9223372036854775807 ∧ ∀ x ∈ (xs : List a.car), a.ok x
  | .arr n a, xs => (xs : List a.car).length = n ∧ ∀ x ∈ (xs : List a.car), a.ok x

theorem RD.ok {F : Nat → Prop} {w : World} : ∀ {t : Ty} {x : t.car} {cs : List Value}, RD F w t x cs → t.ok x
  | .int k, x, cs, h => (wrap_iff k x).1 h.2
  | .bool, _, _, _ => trivial
  | .str, x, cs, h => h.2
  | .unit, _, _, _ => trivial
  | .pair a b, x, cs, h => by
    obtain ⟨c, d, _, h1, h2⟩ := h
    exact ⟨RD.ok h1, RD.ok h2⟩
  | .st a, x, cs, h => RD.ok (t := a) h
  | .list a, xs, cs, h => by
    obtain ⟨A, c, _, _, h1, h2⟩ := h
    refine ⟨h1, fun x hx => ?_⟩
    rcases h2 with h2 | ⟨b, o, _, _, hr⟩
    · rw [h2] at hx; simp at hx
    · obtain ⟨i, hi, rfl⟩ := List.getElem_of_mem hx
      obtain ⟨vs, h3, _⟩ := hr i _ (List.getElem?_eq_getElem hi)
      exact RD.ok h3
  | .arr n a, xs, cs, h => by
    obtain ⟨hl, css, _, hn, hc⟩ := h
    refine ⟨hl, fun x hx => ?_⟩
    obtain ⟨i, hi, rfl⟩ := List.getElem_of_mem hx
    exact RD.ok (hc i _ _ (List.getElem?_eq_getElem hi) (List.getElem?_eq_getElem (show i < css.length by omega)))

/-- Of a value's data. -/
def AV.ok : AV → Prop
  | .dat t x => t.ok x
  | .full t xs => (Ty.list t).ok xs
  | .elt t xs i _ => ∀ x, xs[i]? = some x → t.ok x
  | _ => True

def okL : List AV → Prop
  | [] => True
  | a :: as => a.ok ∧ okL as

theorem VR.ok {F : Nat → Prop} {β : Nat → Base} {w : World} {a : AV} {v : Value} (h : VR F β w a v) : a.ok := by
  cases a with
  | dat t x =>
    unfold VR at h
    split at h
    · obtain ⟨cs, _, h⟩ := h; exact h.ok
    · exact h.ok
  | full t xs =>
    unfold VR at h
    obtain ⟨A, _, h⟩ := h
    exact h.ok
  | elt t xs i o =>
    unfold VR at h
    obtain ⟨b, c, _, _, _, hr⟩ := h
    intro x hx
    obtain ⟨vs, h1, _⟩ := hr i x hx
    exact h1.ok
  | _ => trivial

theorem VRs.ok {F : Nat → Prop} {β : Nat → Base} {w : World} : ∀ {as : List AV} {us : List Value}, VRs F β w as us → okL as
  | [], _, _ => trivial
  | a :: as, us, h => by
    unfold VRs at h
    obtain ⟨u, r, _, h1, h2⟩ := h
    exact ⟨h1.ok, VRs.ok h2⟩

theorem CRs.ok {F : Nat → Prop} {β : Nat → Base} {w : World} : ∀ {cs : List AV} {us : List Value}, CRs F β w cs us → okL cs
  | [], _, _ => trivial
  | c :: cs, us, h => by
    cases c with
    | dat t x =>
      unfold CRs at h
      obtain ⟨c, r, _, h1, h2⟩ := h
      exact ⟨h1.ok, CRs.ok h2⟩
    | agg l => unfold CRs at h; exact h.elim
    | _ =>
      unfold CRs at h
      obtain ⟨u, r, _, _, h1, h2⟩ := h
      exact ⟨h1.ok, CRs.ok h2⟩

/-- Of a region's data. -/
def Reg.ok : Reg → Prop
  | .cells cs => okL cs
  | .arr t xs | .own t xs | .fz t xs => (Ty.list t).ok xs
  | .loop _ _ _ => True
  | .dead => True

theorem Arr.okD {F : Nat → Prop} {w : World} {B : Base} {t : Ty} {xs : List t.car} (h : Arr F w B t xs) : (Ty.list t).ok xs := by
  refine ⟨h.max, fun x hx => ?_⟩
  obtain ⟨i, hi, rfl⟩ := List.getElem_of_mem hx
  have hpos : 0 < B.cap := by have := h.cap; omega
  obtain ⟨vs, h3, _⟩ := h.row hpos i _ (List.getElem?_eq_getElem hi)
  exact h3.ok

theorem RegOk.okD {F : Nat → Prop} {β : Nat → Base} {w : World} {B : Base} {r : Reg} (h : RegOk F β w B r) : r.ok := by
  cases r with
  | cells cs => obtain ⟨vs, h1, _⟩ := h; exact h1.ok
  | arr t xs => exact Arr.okD h
  | own t xs => exact Arr.okD h.1
  | fz t xs => exact RD.ok h
  | loop L tm j => trivial
  | dead => trivial

def okH : List Reg → Prop
  | [] => True
  | r :: rs => r.ok ∧ okH rs

theorem okH_of : ∀ {hp : List Reg}, (∀ k, (rgOf hp k).ok) → okH hp
  | [], _ => trivial
  | r :: rs, h => ⟨by simpa [rgOf] using h 0, okH_of fun k => by simpa [rgOf] using h (k + 1)⟩

/-- A contract may take its arguments' sizes for granted. -/
theorem FnOk.wf {P : Program} {f : FuncId} {as : List AV} {hp : List Reg} {R : Out → Prop} (he : f ≠ yid → ∀ (vs : Array Value) (w : World), (callFunc f vs).run P w = .ok (.enter f vs) w)
    (h : okL as → okH hp → FnOk P f as hp R) : FnOk P f as hp R :=
  ⟨he, fun F β w vs hI hv hr => (h hv.ok (okH_of fun k => (hI.ok k).okD)).calls F β w vs hI hv hr⟩

theorem EntOk.of {P : Program} {e : Ent} {fn : Func} (hf : P.funcs[e.f]? = some fn) (hn : (fn.name == "runtime.NumGoroutine") = false) (hb : fn.body = some (body fn))
    (h : ∀ d g, (∀ p ∈ (e.spec d g).ob, p) → okL (mkL e.ps d) → okH (mkR e.rs g) → FnOk P e.f (mkL e.ps d) (mkR e.rs g) fun o => o = (e.spec d g).bare) : EntOk P e :=
  ⟨fun _ => enters_of hf hn hb, fun d g hob => FnOk.wf (fun _ => enters_of hf hn hb) fun h1 h2 => h d g hob h1 h2⟩
end Go.Abs
