/-
A table of functions' contracts, by the shapes of their arguments.
-/
import Derived.Test.YtoopjhnbcbnleaaDoorA17
namespace Go.Abs
open Go.RowKit
set_option linter.unusedVariables false
set_option linter.unusedSimpArgs false
set_option linter.unnecessarySimpa false

theorem VRs.of_slots {F : Nat → Prop} {β : Nat → Base} {w : World} : ∀ {as : List AV} {us : List Value}, as.length = us.length → (∀ t, t < as.length → VR F β w (as.getD t .bad) (us.getD t undef)) → VRs F β w as us
  | [], us, hl, _ => by
    have : us = [] := List.eq_nil_of_length_eq_zero (by simpa using hl.symm)
    subst this; exact VRs.nil
  | a :: as, [], hl, _ => by simp at hl
  | a :: as, u :: us, hl, h => VRs.cons (by simpa using h 0 (by simp)) (VRs.of_slots (by simpa using hl) fun t ht => by simpa using h (t + 1) (by simpa using ht))

theorem VRs.at {F : Nat → Prop} {β : Nat → Base} {w : World} : ∀ {as : List AV} {us : List Value}, VRs F β w as us → ∀ t, t < as.length → VR F β w (as.getD t .bad) (us.getD t undef)
  | [], us, _, t, ht => by simp at ht
  | a :: as, us, h, t, ht => by
    unfold VRs at h
    obtain ⟨u, r, rfl, h1, h2⟩ := h
    cases t with
    | zero => simpa using h1
    | succ t => simpa using VRs.at h2 t (by simpa using ht)

theorem refsL_at {k : Nat} : ∀ {as : List AV} {t : Nat}, k ∈ (as.getD t .bad).refs → k ∈ refsL as
  | [], t, h => by simp [AV.refs] at h
  | a :: as, 0, h => by rw [refsL, List.mem_append]; exact .inl (by simpa using h)
  | a :: as, t + 1, h => by rw [refsL, List.mem_append]; exact .inr (refsL_at (t := t) (by simpa using h))

theorem refsL_of {k : Nat} : ∀ {as : List AV}, k ∈ refsL as → ∃ t, t < as.length ∧ k ∈ (as.getD t .bad).refs
  | [], h => by simp [refsL] at h
  | a :: as, h => by
    rw [refsL, List.mem_append] at h
    rcases h with h | h
    · exact ⟨0, by simp, by simpa using h⟩
    · obtain ⟨t, h1, h2⟩ := refsL_of h
      exact ⟨t + 1, by simpa using h1, by simpa using h2⟩

/-- A contract at normalised arguments is one at the arguments themselves. -/
theorem FnOk.norm {P : Program} {f : FuncId} {as : List AV} {hp : List Reg} {c : Cut} {s' : St} {R : Out → Prop} (hc : cutSt hp.length c { tm := as, hp } = some s') (hl : s'.hp.length = hp.length)
    (h : FnOk P f s'.tm s'.hp R) (hcov : ∀ o, R o → ∀ k, k < hp.length → k ∈ o.wr.map (·.1)) : FnOk P f as hp R := by
  refine ⟨h.enters, fun F β w vs hI hv hr => ?_⟩
  have hlen := hv.solidVR
  have hSR : SR [] F (fun b i => ∃ k, fp (β k) (rgOf hp k) b i) w β hp.length { tm := as, hp } F β { tmps := vs.toArray, defers := [] } w := by
    refine ⟨hI, ⟨Chg.refl _ w, fun _ h => h, fun _ h => .inl h, fun k b i hf => .inl ⟨k, hf⟩, fun _ _ => rfl⟩, by simp [hlen], rfl, Nat.le_refl _, fun t ht => ?_⟩
    have := hv.at t ht
    exact ⟨by simpa using this, fun k hk => hr k (refsL_at hk)⟩
  obtain ⟨β', hS⟩ := cutSt_sound hc hSR
  have hsz : s'.tm.length = vs.length := by have := hS.size; simpa using this.symm
  have hv' : VRs F β' w s'.tm vs := VRs.of_slots hsz fun t ht => by simpa using (hS.slot t ht).1
  have hr' : ∀ k ∈ refsL s'.tm, k < s'.hp.length := fun k hk => by
    obtain ⟨t, h1, h2⟩ := refsL_of hk
    exact (hS.slot t h1).2 k h2
  have hb : ∀ k b i, fp (β' k) (rgOf s'.hp k) b i → ∃ j, fp (β j) (rgOf hp j) b i := fun k b i hf => by
    rcases hS.fr.own k b i hf with h | h
    · exact h
    · have := (hS.inv.ok k).lt hf; omega
  have hlt : ∀ j b i, fp (β j) (rgOf hp j) b i → j < hp.length := fun j b i hf => by
    rcases Nat.lt_or_ge j hp.length with h | h
    · exact h
    · rw [show rgOf hp j = .dead by simp [rgOf, List.getElem?_eq_none h]] at hf; exact hf.elim
  refine (h.calls F β' w vs hS.inv hv' hr').mono ?_
  rintro e w' ⟨o, u, F2, β2, hR, rfl, hst⟩
  have hset : setAll (rgOf s'.hp) o.wr = setAll (rgOf hp) o.wr := by
    funext k
    rw [setAll_at, setAll_at]
    cases hw : wrAt o.wr k with
    | some x => rfl
    | none =>
      have hk : hp.length ≤ k := by
        rcases Nat.lt_or_ge k hp.length with h | h
        · exact absurd hw (wrAt_mem.2 (hcov o hR k h))
        · exact h
      simp [rgOf, List.getElem?_eq_none hk, List.getElem?_eq_none (show s'.hp.length ≤ k by omega)]
  refine ⟨o, u, F2, β2, hR, rfl, hst.f, fun b hb' => ?_, fun k hk => ?_, hst.val, ?_, ?_, fun k hk => ?_, fun k b i hf => ?_⟩
  · rcases hst.nf b hb' with h | ⟨k, i, h⟩ | h
    · exact .inl h
    · obtain ⟨j, hj⟩ := hb k b i h; exact .inr (.inl ⟨j, i, hj⟩)
    · exact .inr (.inr h)
  · rw [hst.bt k (by omega), hS.fr.bt k hk]
  · rw [← hset]; exact hst.inv.al_ext fun k hk => hk.imp (fun h => by omega) id
  · refine hst.chg.mono fun b i _ ⟨k, _, hf⟩ => ?_
    obtain ⟨j, hj⟩ := hb k b i hf
    exact ⟨j, hcov o hR j (hlt j b i hj), hj⟩
  · exact (hst.rf k hk).imp (fun h => by omega) id
  · rw [← hset] at hf
    rcases hst.own k b i hf with ⟨j, hj⟩ | h
    · exact .inl (hb j b i hj)
    · exact .inr h

/-- A long list of which few parts matter. -/
def padL {α : Type} (n : Nat) (d : α) (l : List (Nat × α)) : List α := l.foldl (fun r p => r.set p.1 p.2) (List.replicate n d)

-- ---------------------------------------------------------------- shapes of arguments
inductive Pt where
  | dat (t : Ty)
  | ref (k o : Nat)
  | arr (k : Nat)
  | fn (f : FuncId) (caps : List (Nat × Nat))
  | ptr (t : Ty)
  | con (b : Bool)
  | yld (k : Nat)
  | bad

inductive RPt where
  | cells (ps : List Pt)
  | arr (t : Ty)
  | own (t : Ty)
  | loop (L : LoopS) (ps : List Pt)

def Pt.sh : Pt → SSh
  | .dat t => .dat t
  | .ref k o => .ref k o
  | .arr k => .arr k
  | .fn f caps => .fn f caps
  | .ptr t => .ptr t
  | .con _ => .dat .bool
  | .yld k => .yld k
  | .bad => .bad

def RPt.sh (k : Nat) : RPt → RSh
  | .cells ps => .cells (.at k) (ps.map Pt.sh)
  | .arr t => .arr (.at k) t
  | .own t => .own (.at k) t
  | .loop _ ps => .loop (.at k) (ps.map Pt.sh)

@[reducible] def DL : List Pt → Type
  | [] => Unit
  | .dat t :: ps => t.car × DL ps
  | .ptr t :: ps => t.car × DL ps
  | .ref _ _ :: ps => DL ps
  | .arr _ :: ps => DL ps
  | .fn _ _ :: ps => DL ps
  | .con _ :: ps => DL ps
  | .yld _ :: ps => DL ps
  | .bad :: ps => DL ps

def mkL : (ps : List Pt) → DL ps → List AV
  | [], _ => []
  | .dat t :: ps, d => .dat t d.1 :: mkL ps d.2
  | .ref k o :: ps, d => .ref k o :: mkL ps d
  | .arr k :: ps, d => .arr k :: mkL ps d
  | .fn f caps :: ps, d => .fn (.func f) [] (caps.map fun p => .ref p.1 p.2) :: mkL ps d
  | .ptr t :: ps, d => .elt t [d.1] 0 0 :: mkL ps d.2
  | .con b :: ps, d => .dat .bool b :: mkL ps d
  | .yld k :: ps, d => .yld k :: mkL ps d
  | .bad :: ps, d => .bad :: mkL ps d

def eqCaps : List (Nat × Nat) → List AV → Bool
  | [], [] => true
  | (k, o) :: r, .ref k' o' :: as => (k == k') && (o == o') && eqCaps r as
  | _, _ => false

theorem eqCaps_spec : ∀ {cs : List (Nat × Nat)} {as : List AV}, eqCaps cs as = true → as = cs.map fun p => .ref p.1 p.2
  | [], [], _ => rfl
  | [], _ :: _, h => by simp [eqCaps] at h
  | _ :: _, [], h => by simp [eqCaps] at h
  | (k, o) :: r, a :: as, h => by
    cases a with
    | ref k' o' =>
      simp only [eqCaps, Bool.and_eq_true, beq_iff_eq] at h
      obtain ⟨⟨rfl, rfl⟩, h⟩ := h
      rw [eqCaps_spec h]; rfl
    | _ => simp [eqCaps] at h

def unL : (ps : List Pt) → List AV → Option (DL ps)
  | [], [] => some ()
  | .dat t :: ps, .dat t' x :: as => if h : t' = t then (unL ps as).map fun d => (h ▸ x, d) else none
  | .ref k o :: ps, .ref k' o' :: as => if k = k' ∧ o = o' then unL ps as else none
  | .arr k :: ps, .arr k' :: as => if k = k' then unL ps as else none
  | .fn f caps :: ps, .fn (.func f') [] cs :: as => if f = f' ∧ eqCaps caps cs = true then unL ps as else none
  | .ptr t :: ps, .elt t' [x] 0 0 :: as => if h : t' = t then (unL ps as).map fun d => (h ▸ x, d) else none
  | .con b :: ps, .dat .bool x :: as => if x = b then unL ps as else none
  | .yld k :: ps, .yld k' :: as => if k = k' then unL ps as else none
  | .bad :: ps, .bad :: as => unL ps as
  | _, _ => none

theorem unL_some : ∀ {ps : List Pt} {as : List AV} {d : DL ps}, unL ps as = some d → as = mkL ps d
  | [], [], d, h => rfl
  | [], _ :: _, d, h => by simp [unL] at h
  | p :: ps, [], d, h => by cases p <;> simp [unL] at h
  | .dat t :: ps, a :: as, d, h => by
    cases a with
    | dat t' x =>
      simp only [unL] at h
      split at h
      · rename_i e; subst e
        obtain ⟨d', h1, rfl⟩ := Option.map_eq_some_iff.1 h
        rw [unL_some h1]; rfl
      · cases h
    | _ => simp [unL] at h
  | .ref k o :: ps, a :: as, d, h => by
    cases a with
    | ref k' o' =>
      simp only [unL] at h
      split at h
      · rename_i e; obtain ⟨rfl, rfl⟩ := e
        rw [unL_some h]; rfl
      · cases h
    | _ => simp [unL] at h
  | .arr k :: ps, a :: as, d, h => by
    cases a with
    | arr k' =>
      simp only [unL] at h
      split at h
      · rename_i e; subst e
        rw [unL_some h]; rfl
      · cases h
    | _ => simp [unL] at h
  | .fn f caps :: ps, a :: as, d, h => by
    cases a with
    | fn g x cs =>
      cases g with
      | func f' =>
        cases x with
        | nil =>
          simp only [unL] at h
          split at h
          · rename_i e; obtain ⟨rfl, e2⟩ := e
            rw [eqCaps_spec e2, unL_some h]; rfl
          · cases h
        | cons _ _ => simp [unL] at h
      | _ => simp [unL] at h
    | _ => simp [unL] at h
  | .ptr t :: ps, a :: as, d, h => by
    cases a with
    | elt t' xs i o =>
      cases xs with
      | nil => simp [unL] at h
      | cons x r =>
        cases r with
        | cons _ _ => simp [unL] at h
        | nil =>
          cases i with
          | succ i => simp [unL] at h
          | zero =>
            cases o with
            | succ o => simp [unL] at h
            | zero =>
              simp only [unL] at h
              split at h
              · rename_i e; subst e
                obtain ⟨d', h1, rfl⟩ := Option.map_eq_some_iff.1 h
                rw [unL_some h1]; rfl
              · cases h
    | _ => simp [unL] at h
  | .con b :: ps, a :: as, d, h => by
    cases a with
    | dat t x =>
      cases t with
      | bool =>
        simp only [unL] at h
        split at h
        · rename_i e; subst e
          rw [unL_some h]; rfl
        · cases h
      | _ => simp [unL] at h
    | _ => simp [unL] at h
  | .yld k :: ps, a :: as, d, h => by
    cases a with
    | yld k' =>
      simp only [unL] at h
      split at h
      · rename_i e; subst e
        rw [unL_some h]; rfl
      · cases h
    | _ => simp [unL] at h
  | .bad :: ps, a :: as, d, h => by
    cases a with
    | bad =>
      simp only [unL] at h
      rw [unL_some h]; rfl
    | _ => simp [unL] at h

@[reducible] def DR : List RPt → Type
  | [] => Unit
  | .cells ps :: r => DL ps × DR r
  | .arr t :: r => List t.car × DR r
  | .own t :: r => List t.car × DR r
  | .loop _ ps :: r => (DL ps × Int) × DR r

def mkR : (rs : List RPt) → DR rs → List Reg
  | [], _ => []
  | .cells ps :: r, d => .cells (mkL ps d.1) :: mkR r d.2
  | .arr t :: r, d => .arr t d.1 :: mkR r d.2
  | .own t :: r, d => .own t d.1 :: mkR r d.2
  | .loop L ps :: r, d => .loop L (mkL ps d.1.1) d.1.2 :: mkR r d.2

def unR : (rs : List RPt) → List Reg → Option (DR rs)
  | [], [] => some ()
  | .cells ps :: r, .cells cs :: gs => match unL ps cs, unR r gs with
    | some d, some e => some (d, e)
    | _, _ => none
  | .arr t :: r, .arr t' xs :: gs => if h : t' = t then (unR r gs).map fun d => (h ▸ xs, d) else none
  | .own t :: r, .own t' xs :: gs => if h : t' = t then (unR r gs).map fun d => (h ▸ xs, d) else none
  | .loop L ps :: r, .loop L' tm j :: gs => if L'.tag = L.tag then match unL ps tm, unR r gs with
    | some d, some e => some ((d, j), e)
    | _, _ => none
    else none
  | _, _ => none

/-- That the loops are the ones that a contract names. -/
def eqsR : List RPt → List Reg → List Prop
  | .loop L _ :: r, .loop L' _ _ :: gs => (L' = L) :: eqsR r gs
  | _ :: r, _ :: gs => eqsR r gs
  | _, _ => []

theorem unR_some : ∀ {rs : List RPt} {gs : List Reg} {d : DR rs}, unR rs gs = some d → (∀ p ∈ eqsR rs gs, p) → gs = mkR rs d
  | [], [], d, h, _ => rfl
  | [], _ :: _, d, h, _ => by simp [unR] at h
  | r :: rs, [], d, h, _ => by cases r <;> simp [unR] at h
  | .cells ps :: rs, g :: gs, d, h, q => by
    cases g with
    | cells cs =>
      simp only [unR] at h
      split at h
      · rename_i d1 d2 h1 h2
        obtain rfl := Option.some.inj h
        rw [unL_some h1, unR_some h2 q]; rfl
      · cases h
    | _ => simp [unR] at h
  | .arr t :: rs, g :: gs, d, h, q => by
    cases g with
    | arr t' xs =>
      simp only [unR] at h
      split at h
      · rename_i e; subst e
        obtain ⟨d', h1, rfl⟩ := Option.map_eq_some_iff.1 h
        rw [unR_some h1 q]; rfl
      · cases h
    | _ => simp [unR] at h
  | .own t :: rs, g :: gs, d, h, q => by
    cases g with
    | own t' xs =>
      simp only [unR] at h
      split at h
      · rename_i e; subst e
        obtain ⟨d', h1, rfl⟩ := Option.map_eq_some_iff.1 h
        rw [unR_some h1 q]; rfl
      · cases h
    | _ => simp [unR] at h
  | .loop L ps :: rs, g :: gs, d, h, q => by
    cases g with
    | loop L' tm j =>
      simp only [unR] at h
      split at h
      · split at h
        · rename_i d1 d2 h1 h2
          obtain rfl := Option.some.inj h
          obtain rfl : L' = L := q _ (List.mem_cons_self ..)
          rw [unL_some h1, unR_some h2 fun p hp => q p (List.mem_cons_of_mem _ hp)]; rfl
        · cases h
      · cases h
    | _ => simp [unR] at h

/-- A contract: the function, its arguments' shapes, what it comes to. -/
structure Ent where
  f : FuncId
  ps : List Pt
  rs : List RPt := []
  spec : DL ps → DR rs → Out

def slotsFrom : Nat → List Pt → List (Tmp × SSh)
  | _, [] => []
  | i, p :: ps => (i, p.sh) :: slotsFrom (i + 1) ps

def regsFrom : Nat → List RPt → List RSh
  | _, [] => []
  | i, p :: ps => p.sh i :: regsFrom (i + 1) ps

def Ent.cut (e : Ent) : Cut := { slots := slotsFrom 0 e.ps, regs := regsFrom 0 e.rs }

def covers (m : Nat) (wr : List (Nat × Reg)) : Bool := (List.range m).all fun k => wr.any fun p => p.1 == k

def Ent.try (e : Ent) (as : List AV) (hp : List Reg) : Option Out :=
  if as.length = e.ps.length ∧ hp.length = e.rs.length then match cutSt hp.length e.cut { tm := as, hp } with
    | some s' => if s'.hp.length = hp.length then match unL e.ps s'.tm, unR e.rs s'.hp with
      | some d, some g => if covers hp.length (e.spec d g).wr = true then some { e.spec d g with ob := eqsR e.rs s'.hp ++ (e.spec d g).ob } else none
      | _, _ => none
      else none
    | none => none
  else none

def locOf : List Ent → Loc
  | [], _, _, _ => none
  | e :: es, f, as, hp => if e.f = f then match e.try as hp with
    | some o => some o
    | none => locOf es f as hp
    else locOf es f as hp

structure EntOk (P : Program) (e : Ent) : Prop where
  enters : e.f ≠ yid → ∀ (vs : Array Value) (w : World), (callFunc e.f vs).run P w = .ok (.enter e.f vs) w
  ok : ∀ d g, (∀ p ∈ (e.spec d g).ob, p) → FnOk P e.f (mkL e.ps d) (mkR e.rs g) fun o => o = (e.spec d g).bare

theorem Ent.try_ok {P : Program} {e : Ent} (he : EntOk P e) {as : List AV} {hp : List Reg} {out : Out} (h : e.try as hp = some out) (hob : ∀ p ∈ out.ob, p) : FnOk P e.f as hp fun o => o = out.bare := by
  unfold Ent.try at h
  split at h
  · split at h
    · rename_i s' hs'
      split at h
      · rename_i hl
        split at h
        · rename_i d g hd hg
          split at h
          · rename_i hcov
            obtain rfl := Option.some.inj h
            refine FnOk.norm hs' hl ?_ fun o ho k hk => ?_
            · rw [unL_some hd, unR_some hg fun p hp => hob p (List.mem_append_left _ hp)]
              exact he.ok d g fun p hp => hob p (List.mem_append_right _ hp)
            · subst ho
              have := List.all_eq_true.1 hcov k (List.mem_range.2 hk)
              obtain ⟨p, hp1, hp2⟩ := List.any_eq_true.1 this
              exact List.mem_map.2 ⟨p, hp1, by simpa using hp2⟩
          · cases h
        · cases h
      · cases h
    · cases h
  · cases h

theorem locOf_ok {P : Program} : ∀ {es : List Ent}, (∀ e ∈ es, EntOk P e) → LocOk P (locOf es)
  | [], _ => ⟨fun f as hp out h => by simp [locOf] at h, fun f as hp out h => by simp [locOf] at h⟩
  | e :: es, he => by
    have ih := locOf_ok fun e' h => he e' (List.mem_cons_of_mem _ h)
    have h0 := he e (List.mem_cons_self ..)
    refine ⟨fun f as hp out h hob => ?_, fun f as hp out h => ?_⟩
    · simp only [locOf] at h
      split at h
      · rename_i hf; subst hf
        split at h
        · rename_i o ho
          obtain rfl := Option.some.inj h
          exact Ent.try_ok h0 ho hob
        · exact ih.ok _ _ _ _ h hob
      · exact ih.ok _ _ _ _ h hob
    · simp only [locOf] at h
      split at h
      · rename_i hf; subst hf
        exact h0.enters
      · exact ih.enters _ _ _ _ h

theorem sums_ok {P : Program} {es : List Ent} (he : ∀ e ∈ es, EntOk P e) : SumsOk P (mkS (locOf es)) := mkS_ok (locOf_ok he)
end Go.Abs
