/-
A law's row, out of its contract.
-/
import Derived.Test.YtoopjhnbcbnleaaDoorA21
import Derived.Test.YtoopjhnbcbnleaaDoorA22
import Derived.ChangeSame
import Derived.ProofKit
import Derived.OpenShut
import Derived.RowKit3
import Derived.ChangeCalls
namespace Go.Abs
open Go.RowKit Go.WideShapes Go.ChangeShapes Go.ChangeAt
set_option linter.unusedVariables false
set_option linter.unusedSimpArgs false

section
variable {H : Type} {enc : TypeId × Value → H} {P : Program}
theorem post_of_below {f : Func} {s : ChangeSpec} {apart fresh handsOn again : Bool} {W W' : World} {args : Array Value} {v : Value} {ds gs : List (DataW H)} {before pa pv : List MemPlace}
    (hW : DataW.Whole enc P f.params.toList s.vars apart W args.toList ds gs before)
    (hres : ∀ (b : Nat) (sp : Nat → Bool) (hd : Bool), DataW.TrodAll enc P W' b sp hd f.resultTypes.toList (v.resultList f.resultTypes.size) (s.fn H (ds ++ gs)).results [])
    (hargs : ∀ sp : Nat → Bool, (∀ p ∈ before, sp p.block = true) → DataW.TrodAll enc P W' 0 sp true f.params.toList args.toList (s.fn H (ds ++ gs)).args pa)
    (hvars : ∀ sp : Nat → Bool, (∀ p ∈ before, sp p.block = true) → DataW.TrodVars enc P W' sp s.vars (s.fn H (ds ++ gs)).vars pv)
    (hps : before = pa ++ pv) (hb : Below W.heap.size W W')
    (hok : ∀ (j : Nat) (t : TypeId) (r : Value), f.resultTypes[j]? = some t → (v.resultList f.resultTypes.size)[j]? = some r → Value.okWide P W' .any 0 t r) :
    s.post enc P f apart fresh handsOn again W args v W' := by
  have hlt : ∀ p ∈ before, p.block < W.heap.size := fun p hp => hW.lt p hp
  have hold : ∀ p ∈ before, (fun b => decide (b < W.heap.size)) p.block = true := fun p hp => by simpa using hlt p hp
  refine ⟨ds, gs, before, [], pa, pv, hW, hres _ _ _, hargs _ hold, hvars _ hold, World.keptBut_mono (fun p hp => ⟨hp, ?_⟩) (hb.frame (· ∈ before)), fun _ => ?_⟩
  · rw [hps, List.mem_append] at hp
    exact Or.inr hp
  · obtain ⟨_, _, _, _, _, hz, hn⟩ := hW
    refine ⟨hok, _, _, ([] ++ pa) ++ pv, ⟨[] ++ pa, pv, trodAll_append (hargs _ (fun _ _ => rfl)) (hres _ _ _), hvars _ (fun _ _ => rfl), rfl, ?_, ?_⟩, ?_⟩
    · intro b off hp
      have hin : MemPlace.cell b off ∈ before := by rw [hps]; simpa using hp
      rw [hb.frozen (hlt _ hin)]
      exact hz b off hin
    · intro ha
      have := hn ha
      rw [hps] at this
      simpa using this
    · intro p hp _
      rw [hps]
      simpa using hp

/-- Are a law's parameters data of these types? -/
def parOk (P : Program) : List TypeId → List Ty → Bool
  | [], [] => true
  | t :: ts, u :: us => rdOk P 12 t u && P.readableRec t && decide (t < P.types.size) && parOk P ts us
  | _, _ => false

theorem args_VRs {W : World} {base : Nat} : ∀ {ts : List TypeId} {us : List Ty} {vs : List Value} {ds : List (DataW H)} {ps : List MemPlace}, parOk P ts us = true → DataW.TrodAll enc P W 0 (fun _ => true) true ts vs ds ps →
    (∀ (j : Nat) t v, ts[j]? = some t → vs[j]? = some v → Value.okWide P W .any base t v) → (∀ p ∈ ps, p.block < W.heap.size) →
    (∃ d : DL (us.map Pt.dat), VRs (fun b => b < W.heap.size) (fun _ => default) W (mkL (us.map Pt.dat) d) vs) ∧
    (laidOutB P = true → ∀ W', Below W.heap.size W W' → ∀ sp : Nat → Bool, (∀ p ∈ ps, sp p.block = true) → DataW.TrodAll enc P W' 0 sp true ts vs ds ps)
  | [], [], vs, ds, ps, _, h, _, _ => by
    obtain ⟨rfl, rfl, rfl⟩ := trodAll_nil h
    exact ⟨⟨(), VRs.nil⟩, fun _ _ _ _ _ => trodAll_mk0⟩
  | t :: ts, u :: us, vs, ds, ps, hk, h, hv, hlt => by
    simp only [parOk, Bool.and_eq_true, decide_eq_true_eq] at hk
    obtain ⟨⟨⟨h1, h2⟩, h3⟩, h4⟩ := hk
    obtain ⟨v, vs', d, ds', p, q, rfl, rfl, rfl, g1, g2⟩ := trodAll_cons h
    obtain ⟨x, hx⟩ := arg_VR (fun _ => default) h1 (hv 0 t v rfl rfl) g1
    obtain ⟨⟨y, hy⟩, hc⟩ := args_VRs h4 g2 (fun j t v e1 e2 => hv (j + 1) t v e1 e2) fun p hp => hlt p (List.mem_append_right _ hp)
    refine ⟨⟨(x, y), ?_⟩, fun hl W' hb sp hsp => ?_⟩
    · exact VRs.cons hx hy
    · exact ⟨p, q, WideElems.Trod_stays hl h2 h3 g1 (fun x hx => hb.same (hlt x (List.mem_append_left _ hx))) (fun x hx => hsp x (List.mem_append_left _ hx)), hc hl W' hb sp fun x hx => hsp x (List.mem_append_right _ hx), rfl⟩
  | [], _ :: _, _, _, _, hk, _, _, _ => by simp [parOk] at hk
  | _ :: _, [], _, _, _, hk, _, _, _ => by simp [parOk] at hk

/-- A law's call, with what its row asks. -/
theorem law_contract {f : FuncId} (hy : f ≠ yid) {fn : Func} {s : ChangeSpec} {us : List Ty} {tb : TypeId} (hlaid : laidOutB P = true) (hpar : parOk P fn.params.toList us = true) (hres : fn.resultTypes = #[tb]) (htb : P.underlying tb = some .bool)
    (hvars : s.vars = []) (hs : ∀ ds : List (DataW H), ds.length = us.length → s.fn H ds = { results := [.lit (.bool true)], args := ds })
    (hF : ∀ d : DL (us.map Pt.dat), okL (mkL (us.map Pt.dat) d) → FnOk P f (mkL (us.map Pt.dat) d) [] fun o => o = { v := .dat .bool true })
    {W : World} {base : Nat} {args : Array Value} {ds gs : List (DataW H)} {before : List MemPlace}
    (hval : ∀ (j : Nat) t v, fn.params[j]? = some t → args[j]? = some v → Value.okWide P W .any base t v)
    (hW : DataW.Whole enc P fn.params.toList s.vars false W args.toList ds gs before) :
    Calls P f args W fun e W' => ∃ v, e = .returned v ∧ s.post enc P fn false true false false W args v W' := by
  have hW' := hW
  obtain ⟨p, q, hA, hV, rfl, hfz, hnd⟩ := hW
  rw [hvars] at hV
  obtain ⟨rfl, rfl⟩ := trodVars_none hV
  have hlt : ∀ x ∈ p, x.block < W.heap.size := fun x hx => hW'.lt x (List.mem_append_left _ hx)
  obtain ⟨⟨d, hd⟩, hcarry⟩ := args_VRs hpar hA (fun j t v e1 e2 => hval j t v ((Array.getElem?_toList (xs := fn.params)).symm.trans e1) ((Array.getElem?_toList (xs := args)).symm.trans e2)) hlt
  have hrefs : ∀ (us : List Ty) (d : DL (us.map Pt.dat)), refsL (mkL (us.map Pt.dat) d) = [] := by
    intro us
    induction us with
    | nil => intro d; rfl
    | cons u us ih =>
      intro d
      have e : mkL ((u :: us).map Pt.dat) d = .dat u d.1 :: mkL (us.map Pt.dat) d.2 := rfl
      rw [e, refsL, ih d.2]
      simp [AV.refs]
  have hlen : ds.length = us.length := by
    have : ∀ (ts : List TypeId) (us : List Ty), parOk P ts us = true → ts.length = us.length := by
      intro ts
      induction ts with
      | nil => intro us h; cases us with
        | nil => rfl
        | cons _ _ => simp [parOk] at h
      | cons t ts ih => intro us h; cases us with
        | nil => simp [parOk] at h
        | cons u us => simp only [parOk, Bool.and_eq_true] at h; simp [ih us h.2]
    rw [← this _ _ hpar]
    exact (trodAll_length hA).2
  have hcall := law_walk hy (β := fun _ => default) (hF d hd.ok) hd (hrefs us d)
  have hargs' : args.toList.toArray = args := by simp
  rw [hargs'] at hcall
  refine hcall.mono ?_
  rintro e W' ⟨rfl, hb⟩
  refine ⟨_, rfl, post_of_below (pa := p) (pv := []) hW' (fun b sp hd => ?_) (fun sp hsp => ?_) (fun sp _ => ?_) (by simp) hb (ok_one hres rfl (okWide_bool_mk htb _))⟩
  · rw [hs _ (by simpa using hlen), hres]
    exact trodAll_mk1 (shut_bool htb _)
  · rw [hs _ (by simpa using hlen)]
    simp only [List.append_nil]
    exact hcarry hlaid W' hb sp fun x hx => hsp x (List.mem_append_left _ hx)
  · rw [hs _ (by simpa using hlen), hvars]
    rfl
end
end Go.Abs
