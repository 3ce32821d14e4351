/-
Every operation that the abstract machine takes does what it says.
-/
import Derived.Test.YtoopjhnbcbnleaaDoorA8
import Derived.OrdersIn
import Derived.Laws.BytesString
import Derived.Laws.Cells
import Derived.RangeFuncIn
import Derived.RangeFuncRecord
namespace Go.Abs
open Go.RowKit
set_option linter.unusedVariables false
set_option linter.unusedSimpArgs false
set_option linter.unnecessarySimpa false

/-- A fence that lets all by; in a round of loop ro, or in a function. -/
def FR (ro : Option Nat) : Fence := { Fence.wide with round := ro }

/-- A round of a loop, as its yield is called. -/
def YCalls (P : Program) (vs : Array Value) (w : World) (R : Ending → World → Prop) : Prop :=
  ∃ (l : Nat) (r : Loop) (rest : List Value), vs = (Value.func (.yield l) #[] #[] :: rest).toArray ∧ w.heap[l]? = some (.loop r) ∧ rest.length = r.params.size ∧
    RoundIn (FR none) 0 P l r.fn ((r.params.zip rest.toArray).foldl (fun tmps (t, a) => tmps.setIfInBounds t a) r.tmps) r.assign r.body w R

/-- A call of function f, or of a loop's yield. -/
def CallsT (P : Program) (f : FuncId) (vs : Array Value) (w : World) (R : Ending → World → Prop) : Prop := if f = yid then YCalls P vs w R else Calls P f vs w R

theorem CallsT.mono {P : Program} {f : FuncId} {vs : Array Value} {w : World} {R R' : Ending → World → Prop} (h : CallsT P f vs w R) (hr : ∀ e w', R e w' → R' e w') : CallsT P f vs w R' := by
  unfold CallsT at *
  split
  · rename_i hf
    rw [if_pos hf] at h
    obtain ⟨l, r, rest, h1, h2, h3, h4⟩ := h
    exact ⟨l, r, rest, h1, h2, h3, h4.mono hr⟩
  · rename_i hf
    rw [if_neg hf] at h
    exact Calls.mono h hr

theorem CallsT.fn {P : Program} {f : FuncId} {vs : Array Value} {w : World} {R : Ending → World → Prop} (hf : f ≠ yid) : CallsT P f vs w R ↔ Calls P f vs w R := by
  unfold CallsT; rw [if_neg hf]

/-- What is told of functions is true. -/
structure SumsOk (P : Program) (S : Sums) : Prop where
  enters : ∀ f as rg nk out, S f as rg nk = some out → f ≠ yid → ∀ (vs : Array Value) (w : World), (callFunc f vs).run P w = .ok (.enter f vs) w
  calls : ∀ f as rgK nk out, S f as rgK nk = some out → (∀ p ∈ out.ob, p) → ∀ F β al rg w vs, Inv F β al rg w → SubR rgK rg → (∀ j, nk ≤ j → j < nk + gap → ¬ al j) → (∀ k ∈ refsL as, al k) → VRs F β w as vs →
    CallsT P f vs.toArray w fun e w' => ∃ u F' β', e = .returned u ∧ Step F β al rg w out.v out.wr F' β' w' u

theorem wpR_val {ro : Option Nat} {P : Program} {o : Oper} {a : Act} {w w' : World} {u : Value} {next : Act → World → Prop} {Q : Exit → Act → World → Prop} (hd : ∀ c, o.op ≠ .defer c) (h : (execOp a.eval o).run P w = .ok (.value u) w')
    (k : next (a.put o.dst u) w') : o.wpIn (FR ro) 0 P a w next Q := by
  refine ⟨fun _ _ => trivial, ?_⟩
  rw [Oper.semAt_eq _ _ _ hd, h]
  exact k

theorem wpR_skip {ro : Option Nat} {P : Program} {o : Oper} {a : Act} {w w' : World} {next : Act → World → Prop} {Q : Exit → Act → World → Prop} (hd : ∀ c, o.op ≠ .defer c) (h : (execOp a.eval o).run P w = .ok .skip w')
    (k : next (a.put o.dst undef) w') : o.wpIn (FR ro) 0 P a w next Q := by
  refine ⟨fun _ _ => trivial, ?_⟩
  rw [Oper.semAt_eq _ _ _ hd, h]
  exact k

theorem callsFR {ro : Option Nat} {n : Nat} {P : Program} {f : FuncId} {args : Array Value} {w : World} {R : Ending → World → Prop} : CallsIn (FR ro) n P f args w R ↔ Calls P f args w R :=
  callsIn_wide (n := n)

theorem roundFR {ro ro' : Option Nat} {n m : Nat} {P : Program} {l : Nat} {f : FuncId} {tmps : Array Value} {assign body : Code} {w : World} {R : Ending → World → Prop} (h : RoundIn (FR ro) n P l f tmps assign body w R) : RoundIn (FR ro') m P l f tmps assign body w R :=
  ⟨trivial, fun c cs _ => h.2 c cs fun _ h => by simp [FR, Fence.wide] at h⟩

section
variable {P : Program} {F : Nat → Prop} {β : Nat → Base} {al : Nat → Prop} {rg rgK : Nat → Reg} {w : World}

theorem bytesOf_size (xs : List Int) : (bytesOf xs).size = xs.length := by
  have : ∀ (xs : List Int) (r : ByteArray), (xs.foldl (fun r n => r.push (UInt8.ofNat n.toNat)) r).size = r.size + xs.length := by
    intro xs
    induction xs with
    | nil => intro r; rfl
    | cons x xs ih => intro r; rw [List.foldl_cons, ih, ByteArray.size_push, List.length_cons]; omega
  rw [bytesOf, this]; simp

theorem evBytes_sound {src dst : TypeId} {x : AV} {v : Value} {out : Out} (h : evBytes P src dst x = some out) (hx : VR F β w x v) : out.wr = [] ∧ out.v.refs = [] ∧ ∃ u, (convert src dst v).run P w = .ok u w ∧ VR F β w out.v u := by
  have key : ∀ (xs : List Int) (te : TypeId), (VR F β w (.dat (.list (.int .u8)) xs) v ∨ VR F β w (.full (.int .u8) xs) v) → elemOf P src = some te → P.underlying dst = some .string → P.underlying te = some (.int .u8) →
      ∃ u, (convert src dst v).run P w = .ok u w ∧ VR F β w (.dat .str (bytesOf xs)) u := by
    intro xs te hx hte hd hu
    obtain ⟨A, c, rfl, hc, hmax, hrow⟩ := list_val hx
    have hs := elemOf_spec hte
    refine ⟨.string (bytesOf xs), ?_, mk_str (by rw [bytesOf_size]; exact hmax)⟩
    rw [run_convert_bytes_string w src dst te A _ c hs hu hd]
    cases A with
    | none =>
      rcases hrow with rfl | ⟨b, o, e, _⟩
      · simp [Conv.bytesToString, bytesOf]
      · cases e
    | some ad =>
      refine run_bytesToString w ad _ c xs ?_
      have hl : (xs.map (Value.int .u8)).length = List.length xs := by simp
      have := run_loadCells_list (P := P) (w := w) ad (xs.map (Value.int .u8)) fun j v hj => by
        rw [List.getElem?_map] at hj
        obtain ⟨x, hxj, rfl⟩ := Option.map_eq_some_iff.1 hj
        rcases hrow with rfl | ⟨b, o, e, hb, hr⟩
        · simp at hxj
        · obtain rfl := Option.some.inj e
          obtain ⟨vs, h1, h2⟩ := hr j x hxj
          obtain ⟨rfl, _⟩ : vs = [.int .u8 x] ∧ _ := h1
          have := h2 0 (.int .u8 x) rfl
          by_cases hj0 : j = 0
          · subst hj0; simpa [Addr.add, Ty.nc] using this
          · simpa [Addr.add, Ty.nc, hj0] using this
      rw [hl] at this
      exact this
  unfold evBytes at h
  split at h
  · rename_i te xs e1 e2
    split at h
    · rename_i e3
      obtain rfl := Option.some.inj h
      exact ⟨rfl, rfl, key xs te (.inl hx) e1 e2 e3⟩
    · cases h
  · rename_i te xs e1 e2
    split at h
    · rename_i e3
      obtain rfl := Option.some.inj h
      exact ⟨rfl, rfl, key xs te (.inr hx) e1 e2 e3⟩
    · cases h
  · cases h


/-- A new variable. -/
theorem step_new {a : AV} {u : Value} {nk : Nat} {t : TypeId} (hI : Inv F β al rg w) (hn : ¬ al nk) (hc : CRs F β w a.comps u.cells.toList) (hr : ∀ k ∈ a.refs, al k) :
    Step F β al rg w (.ref nk 0) [(nk, .cells a.comps)] F (upd β nk { b := w.heap.size, o := 0 }) (w.alloc (.cells u.cells t)) (.pointer (some ⟨w.heap.size, 0, none⟩)) := by
  have hchg : Chg (fun _ _ => False) w (w.alloc (.cells u.cells t)) := Chg.of_below ((Below.refl _ w).alloc (Nat.le_refl _) _)
  have hsame : Same F w (w.alloc (.cells u.cells t)) := hI.same hchg fun _ _ h => h.elim
  refine ⟨fun _ h => h, fun _ h => .inl h, fun k hk => upd_ne _ _ _ fun e => hn (e ▸ hk), ?_, ?_, hchg.mono fun _ _ _ h => h.elim, fun k hk => ?_, own_fresh fun b i h => (by obtain ⟨rfl, _⟩ := h; exact Nat.le_refl _)⟩
  · unfold VR; rw [upd_same]
  · rw [setAll_one]
    refine (hI.fresh hchg hn ?_ (fun b i h => ?_) fun j hj => .inl (hr j (comps_refs (by simpa [Reg.refs] using hj)))).al_ext fun k h => by simpa using h
    · refine ⟨u.cells.toList, hc.mono (fun _ h => h) hsame (fun j hj => upd_ne _ _ _ fun e => hn (e ▸ hr j (comps_refs hj))), by rw [World.size_alloc]; exact Nat.lt_succ_self _, fun i v hi => ⟨?_, ?_⟩⟩
      · have e1 := World.cell?_alloc_new w u.cells t i
        simp only [Nat.zero_add]
        rw [e1]; simpa using hi
      · simp only [Nat.zero_add]
        exact World.frozen?_alloc_new w u.cells t i
    · obtain ⟨rfl, _⟩ := h
      exact Nat.le_refl _
  · simp [AV.refs] at hk; subst hk; simp

theorem zip_parts (ps : Array (Nat × Operand)) (f : Operand → Value) : (ps.map fun p => (p.1, f p.2)).toList = (ps.toList.map (·.1)).zip ((ps.toList.map (·.2)).map f) := by
  rw [Array.toList_map]
  generalize ps.toList = l
  induction l with
  | nil => rfl
  | cons a l ih => simp [ih]

theorem VRs.solidVR {as : List AV} {us : List Value} (h : VRs F β w as us) : as.length = us.length := by
  induction as generalizing us with
  | nil => unfold VRs at h; subst h; rfl
  | cons a as ih => unfold VRs at h; obtain ⟨u, r, rfl, _, h2⟩ := h; simp [ih h2]

theorem VRs.split : ∀ {as : List AV} {us : List Value} (n : Nat), VRs F β w as us → VRs F β w (as.take n) (us.take n) ∧ VRs F β w (as.drop n) (us.drop n)
  | as, us, 0, h => ⟨by rw [List.take_zero, List.take_zero]; exact VRs.nil, h⟩
  | [], us, n + 1, h => by unfold VRs at h; subst h; exact ⟨VRs.nil, VRs.nil⟩
  | a :: as, us, n + 1, h => by
    unfold VRs at h
    obtain ⟨u, r, rfl, h1, h2⟩ := h
    obtain ⟨h3, h4⟩ := VRs.split n h2
    exact ⟨VRs.cons h1 h3, h4⟩

theorem evLen_sound {x a : AV} {u : Value} {t ty : TypeId} (hI : Inv F β al rg w) (hs : SubR rgK rg) (h : evLen P t x rgK = some a) (hx : VR F β w x u) :
    a.refs = [] ∧ ∃ r, (Builtin.len_ #[t] ty #[u]).run P w = .ok r w ∧ VR F β w a r := by
  have int : ∀ n : Nat, n ≤ maxI → VR F β w (.dat (.int .i64) (n : Int)) (.int .i64 n) := fun n hn => mk_int (by
    rw [wrap_iff]; simp only [IntKind.min, IntKind.max, IntKind.signed, IntKind.bits]
    have : n ≤ 9223372036854775807 := hn
    constructor
    · simp
    · simp; omega)
  have sl : ∀ (A : Option Addr) (n c : Nat) (te : TypeId), P.underlying t = some (.slice te) → (Builtin.len_ #[t] ty #[.slice A n c]).run P w = .ok (.int .i64 n) w := by
    intro A n c te hu
    simp [Builtin.len_, run_underlying hu, goInt]
  unfold evLen at h
  split at h
  · rename_i s hu
    obtain rfl := Option.some.inj h
    obtain ⟨rfl, hsz⟩ := str_val hx
    exact ⟨rfl, _, by simp [Builtin.len_, run_underlying hu, goInt], int _ hsz⟩
  · rename_i e xs te hu
    obtain rfl := Option.some.inj h
    obtain ⟨A, c, rfl, _, hm, _⟩ := list_val (.inl hx)
    exact ⟨rfl, _, sl _ _ _ _ hu, int _ hm⟩
  · rename_i e xs te hu
    obtain rfl := Option.some.inj h
    obtain ⟨A, c, rfl, _, hm, _⟩ := list_val (.inr hx)
    exact ⟨rfl, _, sl _ _ _ _ hu, int _ hm⟩
  · rename_i k te hu
    unfold VR at hx
    subst hx
    split at h
    · rename_i e xs hk
      obtain rfl := Option.some.inj h
      have hok := hI.ok k; rw [hs.at hk (by simp)] at hok
      have hok' : Arr F w (β k) e xs := hok
      exact ⟨rfl, _, sl _ _ _ _ hu, by rw [hok'.len]; exact int _ hok'.max⟩
    · rename_i e xs hk
      obtain rfl := Option.some.inj h
      have hok := hI.ok k; rw [hs.at hk (by simp)] at hok
      have hok' : Arr F w (β k) e xs := hok.1
      exact ⟨rfl, _, sl _ _ _ _ hu, by rw [hok'.len]; exact int _ hok'.max⟩
    · cases h
  · rename_i te hu
    obtain rfl := Option.some.inj h
    unfold VR at hx
    obtain ⟨A, rfl⟩ := hx
    exact ⟨rfl, _, sl _ _ _ _ hu, int 0 (by simp)⟩
  · rename_i te hu
    obtain rfl := Option.some.inj h
    unfold VR at hx
    obtain ⟨rfl, _⟩ := hx
    exact ⟨rfl, _, sl _ _ _ _ hu, int 0 (by simp)⟩
  · cases h

theorem evAppend_sound {t tx ty : TypeId} {s x : AV} {u v : Value} {nk : Nat} {out : Out} (hI : Inv F β al rg w) (hs : SubR rgK rg) (hn : ¬ al nk) (h : evAppend P t tx s x rgK nk = some out) (hob : ∀ p ∈ out.ob, p) (hx : VR F β w s u) (hy : VR F β w x v) :
    ∃ r w' β', (Builtin.append_ #[t, tx] ty #[u, v]).run P w = .ok r w' ∧ Step F β al rg w out.v out.wr F β' w' r := by
  unfold evAppend at h
  split at h
  · cases h
  · rename_i te hte
    have ht := elemOf_spec hte
    split at h
    · rename_i e inf hty hinf
      obtain ⟨hnc, _, _, _⟩ := tyIs_spec hty
      have hsz : inf.size = e.nc := by rw [hnc]; simp [Program.cellsOf, hinf]
      split at h
      · rename_i z hz
        split at h
        · rename_i hh
          obtain ⟨hzs, hb⟩ := hh
          split at h
          · cases h
          · rename_i ys hys
            obtain ⟨news, hsrc, hrd, hmax⟩ := srcOf_sound (P := P) hI hs hys hy
            split at h
            · rename_i e' xs
              split at h
              · rename_i he; subst he
                obtain rfl := Option.some.inj h
                have hroom : xs.length + ys.length ≤ 140737488355328 / inf.bytes := hob _ (List.mem_singleton.2 rfl)
                obtain ⟨A, c, hu, hc, hm, hrow⟩ := list_val (.inr hx)
                have : c = xs.length := by unfold VR at hx; obtain ⟨A', e1, _⟩ := hx; rw [hu] at e1; injection e1
                subst this
                subst hu
                obtain ⟨r, w', β', hrun, hst⟩ := app_read (P := P) (ty := ty) (own := false) hI hn ht hinf hz hsz hzs rfl hm hrow (fun h => by cases h) ⟨news, hsrc, hrd⟩ hb hroom
                exact ⟨r, w', β', hrun, hst⟩
              · cases h
            · obtain rfl := Option.some.inj h
              have hroom : (0 : Nat) + ys.length ≤ 140737488355328 / inf.bytes := hob _ (List.mem_singleton.2 rfl)
              unfold VR at hx
              obtain ⟨rfl, _⟩ := hx
              obtain ⟨r, w', β', hrun, hst⟩ := app_read (P := P) (ty := ty) (A := none) (xs := ([] : List e.car)) (own := true) hI hn ht hinf hz hsz hzs rfl (Nat.zero_le _) (.inl rfl) (fun _ => rfl) ⟨news, hsrc, hrd⟩ hb hroom
              exact ⟨r, w', β', hrun, hst⟩
            · obtain rfl := Option.some.inj h
              have hroom : (0 : Nat) + ys.length ≤ 140737488355328 / inf.bytes := hob _ (List.mem_singleton.2 rfl)
              unfold VR at hx
              obtain ⟨A, rfl⟩ := hx
              obtain ⟨r, w', β', hrun, hst⟩ := app_read (P := P) (ty := ty) (A := A) (xs := ([] : List e.car)) (own := true) hI hn ht hinf hz hsz hzs rfl (Nat.zero_le _) (.inl rfl) (fun _ => rfl) ⟨news, hsrc, hrd⟩ hb hroom
              exact ⟨r, w', β', hrun, hst⟩
            · rename_i k
              unfold VR at hx
              subst hx
              split at h
              · rename_i e' xs hk
                split at h
                · rename_i he; subst he
                  obtain rfl := Option.some.inj h
                  have hroom : xs.length + ys.length ≤ 140737488355328 / inf.bytes := hob _ (List.mem_singleton.2 rfl)
                  exact app_own (P := P) (ty := ty) (own := false) hI hn (show rg k = kindOf false _ xs from (hs.at hk (by simp) : rg k = .arr _ xs)) ht hinf hz hsz hzs ⟨news, hsrc, hrd⟩ hb hroom
                · cases h
              · rename_i e' xs hk
                split at h
                · rename_i he; subst he
                  obtain rfl := Option.some.inj h
                  have hroom : xs.length + ys.length ≤ 140737488355328 / inf.bytes := hob _ (List.mem_singleton.2 rfl)
                  exact app_own (P := P) (ty := ty) (own := true) hI hn (show rg k = kindOf true _ xs from (hs.at hk (by simp) : rg k = .own _ xs)) ht hinf hz hsz hzs ⟨news, hsrc, hrd⟩ hb hroom
                · cases h
              · cases h
            · cases h
        · cases h
      · cases h
    · cases h

theorem setAll_app (rg : Nat → Reg) (a b : List (Nat × Reg)) : setAll rg (a ++ b) = setAll (setAll rg a) b := by simp [setAll]

theorem SubR.setAll {rgK rg : Nat → Reg} (h : SubR rgK rg) : ∀ wr : List (Nat × Reg), SubR (setAll rgK wr) (setAll rg wr)
  | [] => h
  | p :: ps => by
    have : SubR (upd rgK p.1 p.2) (upd rg p.1 p.2) := fun k hk => by
      unfold upd at hk ⊢
      split
      · rfl
      · rename_i e; rw [if_neg e] at hk; exact h k hk
    exact SubR.setAll this ps

/-- A step behind regions that nobody writes any more. -/
theorem Step.behind {F1 F2 : Nat → Prop} {β2 : Nat → Base} {w2 : World} {wr1 wr2 : List (Nat × Reg)} {v1 v : AV} {u1 u : Value} (h1 : Step F β al rg w v1 wr1 F1 β w u1) (hk : ∀ k ∈ wr1.map (·.1), al k)
    (hz : ∀ k ∈ wr1.map (·.1), ∀ b i, ¬ fp (β k) (setAll rg wr1 k) b i) (hn : ∀ k, k ∉ wr1.map (·.1) → setAll rg wr1 k = rg k) (h2 : Step F1 β al (setAll rg wr1) w v wr2 F2 β2 w2 u) : Step F β al rg w v (wr1 ++ wr2) F2 β2 w2 u where
  f := fun b hb => h2.f b (h1.f b hb)
  nf := fun b hb => by
    rcases h2.nf b hb with h | ⟨k, i, h⟩ | h
    · exact h1.nf b h
    · rcases h1.own k b i h with ⟨j, hj⟩ | h
      · exact .inr (.inl ⟨j, i, hj⟩)
      · exact .inr (.inr h)
    · exact .inr (.inr h)
  bt := h2.bt
  val := h2.val
  inv := by
    rw [setAll_app]
    refine h2.inv.al_ext fun k hk => hk.imp id fun h => ?_
    rw [List.map_append]; exact List.mem_append_right _ h
  chg := h2.chg.mono fun b i _ ⟨k, hk2, hf⟩ => by
    by_cases e : k ∈ wr1.map (·.1)
    · exact absurd hf (hz k e b i)
    · rw [hn k e] at hf
      exact ⟨k, by rw [List.map_append]; exact List.mem_append_right _ hk2, hf⟩
  rf := fun k hk => (h2.rf k hk).imp id fun h => by rw [List.map_append]; exact List.mem_append_right _ h
  own := fun k b i hf => by
    rw [setAll_app] at hf
    rcases h2.own k b i hf with ⟨j, hj⟩ | h
    · exact h1.own j b i hj
    · exact .inr h

/-- An array that nobody writes from now on. -/
theorem freeze_one {k : Nat} {t : Ty} {xs : List t.car} (hI : Inv F β al rg w) (hk : rg k = .arr t xs ∨ rg k = .own t xs) (hnc : t.nc ≠ 0) : ∃ F', (∀ b, F b → F' b) ∧ (∀ b, F' b → F b ∨ ∃ i, fp (β k) (rg k) b i) ∧
    Inv F' β al (upd rg k (.fz t xs)) w ∧ VR F' β w (.dat (.list t) xs) (.slice (β k).A (β k).len (β k).cap) := by
  have hA : Arr F w (β k) t xs := by
    have := hI.ok k
    rcases hk with hk | hk <;> rw [hk] at this
    · exact this
    · exact this.1
  have hfp : ∀ b i, ((β k).bor = false ∧ b = (β k).b ∧ (β k).o ≤ i ∧ i < (β k).o + (β k).cap * t.nc) ↔ fp (β k) (rg k) b i := fun b i => by
    rcases hk with hk | hk <;> rw [hk] <;> rfl
  have hrd : RD (fun b => F b ∨ ∃ i, fp (β k) (rg k) b i) w (.list t) xs [.slice (β k).A (β k).len (β k).cap] := by
      refine ⟨(β k).A, (β k).cap, by rw [hA.len], hA.cap, hA.max, ?_⟩
      by_cases hx : xs = []
      · exact .inl hx
      · right
        have hpos : 0 < (β k).cap := by have := hA.cap; have : 0 < xs.length := List.length_pos_iff.2 hx; omega
        have hF : F (β k).b ∨ ∃ i, fp (β k) (rg k) (β k).b i := by
          cases hb : (β k).bor with
          | true => exact .inl (hA.bor hpos hb).2
          | false => exact .inr ⟨(β k).o, (hfp _ _).1 ⟨hb, rfl, Nat.le_refl _, by have := Nat.mul_pos hpos (Nat.pos_of_ne_zero hnc); omega⟩⟩
        exact ⟨_, _, hA.adr hpos, hF, (hA.row hpos).mono (fun x vs _ h => h.mono (fun b h => .inl h) fun _ _ _ _ h => h) fun _ _ h => h⟩
  refine ⟨fun b => F b ∨ ∃ i, fp (β k) (rg k) b i, fun b h => .inl h, fun b h => h, ?_, mk_flat (t := .list t) rfl hrd⟩
  · exact
    { ok := fun j => by
        by_cases e : j = k
        · subst e; rw [upd_same]; exact hrd
        · rw [upd_ne _ _ _ e]
          exact (hI.ok j).keep (fun b h => .inl h) (fun _ _ _ _ h => h) (fun _ _ => rfl) (Nat.le_refl _) fun _ _ _ => ⟨rfl, rfl, fun _ => rfl⟩
      dj := fun i j b o o' hij h1 h2 => by
        by_cases e1 : i = k
        · subst e1; rw [upd_same] at h1; exact h1
        · by_cases e2 : j = k
          · subst e2; rw [upd_same] at h2; exact h2
          · rw [upd_ne _ _ _ e1] at h1; rw [upd_ne _ _ _ e2] at h2
            exact hI.dj i j b o o' hij h1 h2
      nf := fun j b i hf hF => by
        by_cases e : j = k
        · subst e; rw [upd_same] at hf; exact hf
        · rw [upd_ne _ _ _ e] at hf
          rcases hF with hF | ⟨i', hF⟩
          · exact hI.nf j b i hf hF
          · exact hI.dj j k b i i' e hf hF
      ff := fun b hb => hb.elim (hI.ff b) fun ⟨i, h⟩ => (hI.ok k).lt h
      tk := fun j hj => by
        by_cases e : j = k
        · subst e; exact hI.tk j (by rcases hk with h | h <;> rw [h] <;> simp)
        · rw [upd_ne _ _ _ e] at hj; exact hI.tk j hj
      sc := fun i j hj => by
        by_cases e : i = k
        · subst e; rw [upd_same] at hj; simp [Reg.refs] at hj
        · rw [upd_ne _ _ _ e] at hj; exact hI.sc i j hj }

theorem frz_sound : ∀ {as : List AV} {rg rgK : Nat → Reg} {F : Nat → Prop} {us : List Value}, Inv F β al rg w → SubR rgK rg → VRs F β w as us → (∀ k ∈ refsL as, al k) →
    ∃ F', (∀ b, F b → F' b) ∧ (∀ b, F' b → F b ∨ ∃ k i, fp (β k) (rg k) b i) ∧ Inv F' β al (setAll rg (frz as rgK).2) w ∧ VRs F' β w (frz as rgK).1 us ∧ (∀ k ∈ refsL (frz as rgK).1, al k) ∧
      (∀ k ∈ (frz as rgK).2.map (·.1), al k) ∧ (∀ k ∈ (frz as rgK).2.map (·.1), ∃ t xs, setAll rg (frz as rgK).2 k = .fz t xs) ∧ (∀ k, k ∉ (frz as rgK).2.map (·.1) → setAll rg (frz as rgK).2 k = rg k)
  | [], rg, rgK, F, us, hI, hs, hv, hr => ⟨F, fun _ h => h, fun _ h => .inl h, hI, hv, hr, by simp [frz], by simp [frz], fun _ _ => rfl⟩
  | a :: r, rg, rgK, F, us, hI, hs, hv, hr => by
    have hv' := hv
    unfold VRs at hv'
    obtain ⟨u, us', rfl, hu, hus⟩ := hv'
    have hra : ∀ k ∈ a.refs, al k := fun k hk => hr k (by simp [refsL, hk])
    have hrr : ∀ k ∈ refsL r, al k := fun k hk => hr k (by simp [refsL, hk])
    have same : ∀ (hf : frz (a :: r) rgK = (a :: (frz r rgK).1, (frz r rgK).2)), ∃ F', (∀ b, F b → F' b) ∧ (∀ b, F' b → F b ∨ ∃ k i, fp (β k) (rg k) b i) ∧ Inv F' β al (setAll rg (frz (a :: r) rgK).2) w ∧ VRs F' β w (frz (a :: r) rgK).1 (u :: us') ∧ (∀ k ∈ refsL (frz (a :: r) rgK).1, al k) ∧
      (∀ k ∈ (frz (a :: r) rgK).2.map (·.1), al k) ∧ (∀ k ∈ (frz (a :: r) rgK).2.map (·.1), ∃ t xs, setAll rg (frz (a :: r) rgK).2 k = .fz t xs) ∧ (∀ k, k ∉ (frz (a :: r) rgK).2.map (·.1) → setAll rg (frz (a :: r) rgK).2 k = rg k) := by
      intro hf
      obtain ⟨F', h1, h2, h3, h4, h5, h6, h7, h8⟩ := frz_sound (as := r) hI hs hus hrr
      rw [hf]
      exact ⟨F', h1, h2, h3, VRs.cons (hu.mono h1 (fun _ _ _ _ h => h) fun _ _ => rfl) h4, fun k hk => by
        rw [refsL, List.mem_append] at hk; exact hk.elim (hra k) (h5 k), h6, h7, h8⟩
    have put : ∀ (k : Nat) (t : Ty) (xs : List t.car), a = .arr k → rg k = .arr t xs ∨ rg k = .own t xs → t.nc ≠ 0 → frz (a :: r) rgK = (.dat (.list t) xs :: (frz r (upd rgK k (.fz t xs))).1, (k, .fz t xs) :: (frz r (upd rgK k (.fz t xs))).2) →
      ∃ F', (∀ b, F b → F' b) ∧ (∀ b, F' b → F b ∨ ∃ k i, fp (β k) (rg k) b i) ∧ Inv F' β al (setAll rg (frz (a :: r) rgK).2) w ∧ VRs F' β w (frz (a :: r) rgK).1 (u :: us') ∧ (∀ k ∈ refsL (frz (a :: r) rgK).1, al k) ∧
      (∀ k ∈ (frz (a :: r) rgK).2.map (·.1), al k) ∧ (∀ k ∈ (frz (a :: r) rgK).2.map (·.1), ∃ t xs, setAll rg (frz (a :: r) rgK).2 k = .fz t xs) ∧ (∀ k, k ∉ (frz (a :: r) rgK).2.map (·.1) → setAll rg (frz (a :: r) rgK).2 k = rg k) := by
      intro k t xs ha hk hnc hf
      subst ha
      obtain ⟨F1, g1, g2, g3, g4⟩ := freeze_one hI hk hnc
      have hsub : SubR (upd rgK k (.fz t xs)) (upd rg k (.fz t xs)) := hs.setAll [(k, .fz t xs)]
      obtain ⟨F', h1, h2, h3, h4, h5, h6, h7, h8⟩ := frz_sound (as := r) g3 hsub (hus.mono g1 (fun _ _ _ _ h => h) fun _ _ => rfl) hrr
      have hset : ∀ wr, setAll rg ((k, .fz t xs) :: wr) = setAll (upd rg k (.fz t xs)) wr := fun _ => rfl
      unfold VR at hu
      subst hu
      rw [hf]
      refine ⟨F', fun b hb => h1 b (g1 b hb), fun b hb => ?_, by rw [hset]; exact h3, VRs.cons (g4.mono h1 (fun _ _ _ _ h => h) fun _ _ => rfl) h4, fun j hj => ?_, fun j hj => ?_, fun j hj => ?_, fun j hj => ?_⟩
      · rcases h2 b hb with h | ⟨j, i, h⟩
        · exact (g2 b h).imp id fun ⟨i, h⟩ => ⟨k, i, h⟩
        · by_cases e : j = k
          · subst e; rw [upd_same] at h; exact h.elim
          · rw [upd_ne _ _ _ e] at h; exact .inr ⟨j, i, h⟩
      · rw [refsL, List.mem_append] at hj
        exact hj.elim (fun h => by simp [AV.refs] at h) (h5 j)
      · rw [List.map_cons, List.mem_cons] at hj
        rcases hj with rfl | hj
        · exact hra _ (by simp [AV.refs])
        · exact h6 j hj
      · rw [hset]
        by_cases e : j ∈ (frz r (upd rgK k (.fz t xs))).2.map (·.1)
        · exact h7 j e
        · rw [List.map_cons, List.mem_cons] at hj
          obtain rfl := hj.resolve_right e
          rw [h8 _ e]
          exact ⟨t, xs, by rw [upd_same]⟩
      · rw [List.map_cons, List.mem_cons, not_or] at hj
        rw [hset, h8 j hj.2, upd_ne _ _ _ hj.1]
    cases a with
    | arr k =>
      cases hk : rgK k with
      | arr t xs =>
        by_cases hnc : t.nc = 0
        · exact same (by simp [frz, hk, hnc])
        · exact put k t xs rfl (.inl (hs.at hk (by simp))) hnc (by simp [frz, hk, hnc])
      | own t xs =>
        by_cases hnc : t.nc = 0
        · exact same (by simp [frz, hk, hnc])
        · exact put k t xs rfl (.inr (hs.at hk (by simp))) hnc (by simp [frz, hk, hnc])
      | fz t xs =>
        obtain ⟨F', h1, h2, h3, h4, h5, h6, h7, h8⟩ := frz_sound (as := r) hI hs hus hrr
        have hf : frz (.arr k :: r) rgK = (.dat (.list t) xs :: (frz r rgK).1, (frz r rgK).2) := by simp [frz, hk]
        rw [hf]
        have hok := hI.ok k
        rw [hs.at hk (by simp)] at hok
        unfold VR at hu; subst hu
        exact ⟨F', h1, h2, h3, VRs.cons (mk_flat (t := .list t) rfl (RD.mono h1 (fun _ _ _ _ h => h) hok)) h4, fun j hj => by
          rw [refsL, List.mem_append] at hj; exact hj.elim (fun h => by simp [AV.refs] at h) (h5 j), h6, h7, h8⟩
      | cells cs => exact same (by simp [frz, hk])
      | loop L tm j => exact same (by simp [frz, hk])
      | dead => exact same (by simp [frz, hk])
    | _ => exact same (by simp [frz])

theorem evCallArgs_sound {S : Sums} (hS : SumsOk P S) {f : FuncId} {as : List AV} {nk : Nat} {out : Out} (h : evCallArgs S f as rgK nk = some out) :
    (f ≠ yid → ∀ (vs : Array Value) (w : World), (callFunc f vs).run P w = .ok (.enter f vs) w) ∧ ((∀ p ∈ out.ob, p) → ∀ (vs : List Value), Inv F β al rg w → SubR rgK rg → (∀ j, nk ≤ j → j < nk + gap → ¬ al j) → (∀ k ∈ refsL as, al k) → VRs F β w as vs →
    CallsT P f vs.toArray w fun e w' => ∃ u F' β', e = .returned u ∧ Step F β al rg w out.v out.wr F' β' w' u) := by
  unfold evCallArgs at h
  split at h
  · rename_i o ho
    obtain rfl := Option.some.inj h
    exact ⟨hS.enters f _ _ _ _ ho, fun hob vs hI hs hn hr hv => hS.calls f _ _ _ _ ho hob F β al rg w vs hI hs hn hr hv⟩
  · split at h
    · rename_i o ho
      obtain rfl := Option.some.inj h
      refine ⟨hS.enters f _ _ _ _ ho, fun hob vs hI hs hn hr hv => ?_⟩
      obtain ⟨F', h1, h2, h3, h4, h5, h6, h7, h8⟩ := frz_sound hI hs hv hr
      refine (hS.calls f _ _ _ _ ho hob F' β al (setAll rg (frz as rgK).2) w vs h3 (hs.setAll _) hn h5 h4).mono ?_
      rintro e w' ⟨u, F2, β2, rfl, hst⟩
      refine ⟨u, F2, β2, rfl, Step.behind (F1 := F') (v1 := .bad) (u1 := undef) ⟨h1, fun b hb => (h2 b hb).imp id .inl, fun _ _ => rfl, by unfold VR; trivial, h3.al_ext fun k h => .inl h, (Chg.refl (fun _ _ => False) w).mono (fun _ _ _ h => False.elim h), fun k hk => by simp [AV.refs] at hk, fun k b i hf => ?_⟩ h6 ?_ h8 hst⟩
      · by_cases e : k ∈ (frz as rgK).2.map (·.1)
        · obtain ⟨t, xs, h9⟩ := h7 k e; rw [h9] at hf; exact hf.elim
        · rw [h8 k e] at hf; exact .inl ⟨k, hf⟩
      · intro k hk b i hf
        obtain ⟨t, xs, h9⟩ := h7 k hk; rw [h9] at hf; exact hf
    · cases h

theorem opSound {ro : Option Nat} {S : Sums} (hS : SumsOk P S) {o : Oper} {a : Act} {as : List AV} {nk : Nat} {out : Out} (hI : Inv F β al rg w) (hs : SubR rgK rg) (hn : ∀ j, nk ≤ j → j < nk + gap → ¬ al j)
    (hv : VRs F β w as (o.op.operands.toList.map a.eval)) (hr : ∀ k ∈ refsL as, al k) (h : evalOp' P S o as rgK nk = some out) (hob : ∀ p ∈ out.ob, p)
    {next : Act → World → Prop} {Q : Exit → Act → World → Prop} (hnext : ∀ u w' F' β', Step F β al rg w out.v out.wr F' β' w' u → next (a.put o.dst u) w') : o.wpIn (FR ro) 0 P a w next Q := by
  have hdf : ∀ c, o.op ≠ .defer c := fun c e => by simp [evalOp', e] at h
  -- a value that has been there, or is reckoned: nothing has turned
  have quiet : ∀ u, (execOp a.eval o).run P w = .ok (.value u) w → out.wr = [] → VR F β w out.v u → (∀ k ∈ out.v.refs, al k) → o.wpIn (FR ro) 0 P a w next Q := by
    intro u hrun hwr hvr hrf
    refine wpR_val hdf hrun (hnext u w F β ?_)
    rw [hwr]
    exact Step.quiet hI (Chg.refl _ w) hvr hrf
  have mem1 : ∀ {x : AV} {r : List AV} {k : Nat}, k ∈ x.refs → k ∈ refsL (x :: r) := fun h => by simp [refsL, h]
  obtain ⟨dst, op, type, pos, after, guard⟩ := o
  cases op with
  | move x =>
    obtain ⟨a1, rfl, h1⟩ := VRs.one (by simpa [Op.operands] using hv)
    simp only [evalOp', Option.some.injEq] at h
    subst h
    exact quiet _ (by simp [execOp]) rfl h1 fun k hk => hr k (mem1 hk)
  | assign x =>
    obtain ⟨a1, rfl, h1⟩ := VRs.one (by simpa [Op.operands] using hv)
    simp only [evalOp', Option.some.injEq] at h
    subst h
    exact quiet _ (by simp [execOp]) rfl h1 fun k hk => hr k (mem1 hk)
  | box t x =>
    obtain ⟨a1, rfl, h1⟩ := VRs.one (by simpa [Op.operands] using hv)
    simp only [evalOp', evBox] at h
    split at h
    · rename_i hh
      obtain rfl := Option.some.inj h
      exact wpR_val hdf (u := .pointer (some ⟨w.heap.size, 0, none⟩)) (w' := w.alloc (.cells (a.eval x).cells t)) (by simp [execOp, Instr.box, newVar, newRow, newObj, Sem.run]) (hnext _ _ _ _ (step_new hI (hn nk (Nat.le_refl _) (by simp [gap])) (h1.comps hh.2) fun k hk => hr k (mem1 hk)))
    · cases h
  | alloc t =>
    obtain rfl := VRs.nilL (by simpa [Op.operands] using hv)
    simp only [evalOp', evAlloc] at h
    split at h
    · rename_i i hi
      split at h
      · rename_i z hz
        split at h
        · rename_i hsol
          obtain rfl := Option.some.inj h
          exact wpR_val hdf (u := .pointer (some ⟨w.heap.size, 0, none⟩)) (w' := w.alloc (.cells z.cells t)) (by simp [execOp, Instr.alloc, zeroValue, typeInfo, hi, hz, newVar, newRow, newObj, Sem.run])
            (hnext _ _ _ _ (step_new hI (hn nk (Nat.le_refl _) (by simp [gap])) ((ofConst_sound z).comps hsol) fun k hk => by rw [ofConst_refs] at hk; cases hk))
        · cases h
      · cases h
    · cases h
  | load t x =>
    obtain ⟨a1, rfl, h1⟩ := VRs.one (by simpa [Op.operands] using hv)
    simp only [evalOp'] at h
    obtain ⟨c, hc, rfl⟩ := Option.map_eq_some_iff.1 h
    obtain ⟨u, ad, hp, hrun, hvr, hrf⟩ := evLoad_sound (P := P) hI hs hc h1
    exact quiet u (by simp [execOp, hp, Instr.loadAt, Instr.sureAddr, hrun]) rfl hvr hrf
  | store t x y =>
    obtain ⟨a1, r, rfl, h1, h2⟩ := VRs.consL (by simpa [Op.operands] using hv)
    obtain ⟨a2, rfl, h3⟩ := VRs.one h2
    simp only [evalOp'] at h
    obtain ⟨ad, w', hp, hrun, hst⟩ := evStore_sound (P := P) hI hs h h1 h3 fun k hk => hr k (by simp [refsL, hk])
    exact wpR_skip hdf (w' := w') (by simp [execOp, hp, Instr.storeAt, Instr.sureAddr, hrun]) (hnext _ _ _ _ hst)
  | nilCheck x =>
    obtain ⟨a1, rfl, h1⟩ := VRs.one (by simpa [Op.operands] using hv)
    simp only [evalOp', evNilCheck] at h
    split at h
    · obtain rfl := Option.some.inj h
      have := h1; unfold VR at this
      exact quiet _ (by simp [execOp, this]) rfl h1 fun k hk => hr k (mem1 hk)
    · obtain rfl := Option.some.inj h
      have := h1; unfold VR at this
      obtain ⟨b, c, this, _⟩ := this
      exact quiet _ (by simp [execOp, this]) rfl h1 fun k hk => hr k (mem1 hk)
    · obtain rfl := Option.some.inj h
      have := h1; unfold VR at this
      exact quiet _ (by simp [execOp, this.1]) rfl h1 fun k hk => hr k (mem1 hk)
    · cases h
  | fieldAddr s x f =>
    obtain ⟨a1, rfl, h1⟩ := VRs.one (by simpa [Op.operands] using hv)
    simp only [evalOp', evFieldAddr] at h
    split at h
    · rename_i fs hu
      split at h
      · rename_i fd hf
        split at h
        · cases h
        · rename_i hz
          split at h
          · obtain rfl := Option.some.inj h
            unfold VR at h1
            refine quiet _ (by simp [execOp, h1, run_fieldAt hu hf hz]; rfl) rfl ?_ fun k hk => hr k (mem1 (by simpa [AV.refs] using hk))
            unfold VR; simp [Nat.add_assoc]
          · obtain rfl := Option.some.inj h
            unfold VR at h1
            obtain ⟨b, c, h1, hb, hi, hrow⟩ := h1
            refine quiet _ (by simp [execOp, h1, run_fieldAt hu hf hz]; rfl) rfl ?_ fun k hk => by simp [AV.refs] at hk
            unfold VR; exact ⟨b, c, by simp [Nat.add_assoc], hb, hi, hrow⟩
          · obtain rfl := Option.some.inj h
            unfold VR at h1
            refine quiet _ (by simp [execOp, h1.1, run_fieldAt hu hf hz]; rfl) rfl ?_ fun k hk => hr k (mem1 (by simpa [AV.refs] using hk))
            unfold VR; exact ⟨by simp [Nat.add_assoc], h1.2⟩
          · cases h
      · cases h
    · cases h
  | field s x f =>
    obtain ⟨a1, rfl, h1⟩ := VRs.one (by simpa [Op.operands] using hv)
    simp only [evalOp', evField] at h
    split at h
    · rename_i fs hu
      split at h
      · rename_i fd hf
        split at h
        · cases h
        · rename_i hz
          have hagg : a1.isAggV = true := by cases hq : a1.isAggV <;> simp_all
          have hsol : a1.solid = true := by cases a1 <;> first | rfl | (simp [AV.isAggV] at hagg)
          obtain ⟨d, hd⟩ : ∃ d, P.underlying fd.type = some d := by
            cases hq : P.underlying fd.type with
            | none => simp [hq] at hz
            | some d => exact ⟨d, rfl⟩
          obtain ⟨inf, hinf⟩ := info_of hd
          split at h
          · rename_i p r hsp
            split at h
            · rename_i m q hsp2
              obtain ⟨c, hc, rfl⟩ := Option.map_eq_some_iff.1 h
              have hval := h1.aggCells hagg
              obtain ⟨y, z, e1, hy, _, hz2⟩ := CRs.split hsp (h1.comps hsol)
              obtain ⟨y2, z2, rfl, hy2, hm, _⟩ := CRs.split hsp2 hz2
              have hmk := mkLoad_sound hc hm
              have hrf : ∀ k ∈ c.refs, al k := fun k hk => hr k (mem1 (comps_refs (split_refs hsp k (.inr (split_refs hsp2 k (.inl (mkLoad_refs hc k hk)))))))
              cases ha : aggT P fd.type with
              | true =>
                rw [ha] at hmk
                refine quiet _ ?_ rfl (hmk.1 rfl) hrf
                have : ((a.eval x).cells.extract fd.offset (fd.offset + P.cellsOf fd.type)) = y2.toArray := by
                  apply Array.ext'
                  rw [Array.toList_extract, e1, List.extract_eq_take_drop, ← hy, List.drop_left, ← hy2, Nat.add_sub_cancel_left, List.take_left]
                have hv2 : a.eval x = .agg (a.eval x).cells := by rw [hval]; simp [Value.cells]
                simp only [execOp]
                rw [hv2]
                simp [Instr.field, run_underlying hu, hf, asAgg, part, run_isAgg hd, ha, run_sizeOf' hinf, this]
              | false =>
                rw [ha] at hmk
                obtain ⟨v, rfl, hvr⟩ := hmk.2 rfl
                refine quiet v ?_ rfl hvr hrf
                have : ((a.eval x).cells[fd.offset]?) = some v := by
                  rw [← Array.getElem?_toList, e1, ← hy, List.getElem?_append_right (Nat.le_refl _)]; simp
                have hv2 : a.eval x = .agg (a.eval x).cells := by rw [hval]; simp [Value.cells]
                simp only [execOp]
                rw [hv2]
                simp [Instr.field, run_underlying hu, hf, asAgg, part, run_isAgg hd, ha, this]
            · cases h
          · cases h
      · cases h
    · cases h
  | indexAddr t x i =>
    obtain ⟨a1, r, rfl, h1, h2⟩ := VRs.consL (by simpa [Op.operands] using hv)
    obtain ⟨a2, rfl, h3⟩ := VRs.one h2
    simp only [evalOp'] at h
    obtain ⟨hw, hrf, u, hrun, hvr⟩ := evIndexAddr_sound (P := P) hI hs h hob h1 h3
    exact quiet u (by simp [execOp, hrun]) hw hvr hrf
  | index t x i =>
    obtain ⟨a1, r, rfl, h1, h2⟩ := VRs.consL (by simpa [Op.operands] using hv)
    obtain ⟨a2, rfl, h3⟩ := VRs.one h2
    simp only [evalOp', evIndex] at h
    split at h
    · rename_i s k n
      split at h
      · rename_i hu
        obtain rfl := Option.some.inj h
        obtain ⟨h0, h4⟩ : 0 ≤ (n : Int) ∧ (n : Int) < (s : ByteArray).size := hob _ (List.mem_singleton.2 rfl)
        obtain ⟨e1, _⟩ := str_val h1
        obtain ⟨e2, _⟩ := int_val h3
        have key : ∀ (m : Int) (z : Nat), 0 ≤ m → m < z → m.toNat < z := by omega
        have hlt : (n : Int).toNat < (s : ByteArray).size := key _ _ h0 h4
        refine quiet (.int .u8 (((s : ByteArray)[(n : Int).toNat]?.getD 0).toNat : Int)) ?_ rfl (mk_int ?_) fun k hk => by simp [AV.refs] at hk
        · simp [execOp, e1, e2, Instr.index, asIntOf, run_underlying hu, h0, getElem?_pos, hlt]
        · rw [wrap_iff]
          have := ((s : ByteArray)[(n : Int).toNat]?.getD 0).toNat_lt
          simp only [IntKind.min, IntKind.max, IntKind.signed, IntKind.bits]
          constructor
          · simp
          · simp; omega
      · cases h
    · cases h
  | extract x j =>
    obtain ⟨a1, rfl, h1⟩ := VRs.one (by simpa [Op.operands] using hv)
    simp only [evalOp', evExtract] at h
    split at h
    · rename_i vs
      obtain ⟨v, hvj, rfl⟩ := Option.map_eq_some_iff.1 h
      unfold VR at h1
      obtain ⟨us, e1, h1⟩ := h1
      have hlen := h1.solidVR
      have hj : j < vs.length := (List.getElem?_eq_some_iff.1 hvj).1
      have hju : j < us.length := by omega
      obtain ⟨p, q⟩ := h1.split j
      rw [List.drop_eq_getElem_cons hj, List.drop_eq_getElem_cons hju] at q
      unfold VRs at q
      obtain ⟨u, r, e2, q1, _⟩ := q
      injection e2 with e2 _
      rw [List.getElem?_eq_getElem hj] at hvj
      obtain rfl := Option.some.inj hvj
      refine quiet us[j] ?_ rfl (e2 ▸ q1) fun k hk => hr k (mem1 (by simp only [AV.refs]; exact mem_refsL.2 ⟨_, List.getElem_mem hj, hk⟩))
      simp [execOp, e1, Instr.extract, List.getElem?_eq_getElem hju]
    · cases h
  | build t ps =>
    simp only [evalOp'] at h
    have hv' : VRs F β w as ((ps.toList.map (·.2)).map a.eval) := by simpa [Op.operands] using hv
    obtain ⟨hw, hob', hrf, cells, hb, hvr⟩ := evBuild_sound (P := P) h hv' hr
    rw [← zip_parts] at hb
    refine quiet _ ?_ hw hvr hrf
    simp only [execOp, Sem.run_bind]
    have := run_build (P := P) w t (ps.map fun p => (p.1, a.eval p.2)) cells hb
    simp only [this, Result.andThen_ok, Sem.run_pure]
  | buildSlice t n ps =>
    simp only [evalOp'] at h
    have hv' : VRs F β w as ((ps.toList.map (·.2)).map a.eval) := by simpa [Op.operands] using hv
    have e1 : (ps.map fun p => (p.1, a.eval p.2)).toList.map (·.1) = ps.toList.map (·.1) := by simp [List.map_map, Function.comp_def]
    have e2 : (ps.map fun p => (p.1, a.eval p.2)).toList.map (·.2) = (ps.toList.map (·.2)).map a.eval := by simp [List.map_map, Function.comp_def]
    rw [← e1] at h
    obtain ⟨hob', u, w', F', hrun, hst⟩ := evBuildSlice_sound (P := P) hI h hv' e2
    refine wpR_val hdf (u := u) (w' := w') ?_ (hnext _ _ _ _ hst)
    simp only [execOp, Sem.run_bind, hrun, Result.andThen_ok, Sem.run_pure]
  | slice t x lo hi mx =>
    simp only [evalOp', evSliceOp] at h
    have fin : ∀ (a1 : AV) (l h' m : Option AV), evSlice P t a1 l h' m = some out → VR F β w a1 (a.eval x) → OVR F β w l (lo.map a.eval) → OVR F β w h' (hi.map a.eval) → OVR F β w m (mx.map a.eval) →
        Oper.wpIn (FR ro) 0 P { dst := dst, op := .slice t x lo hi mx, type := type, pos := pos, after := after, guard := guard } a w next Q := by
      intro a1 l h' m he h1 h2 h3 h4
      obtain ⟨hw, hrf, u, hrun, hvr⟩ := evSlice_sound (P := P) he hob h1 h2 h3 h4
      exact quiet u (by simp [execOp, hrun]) hw hvr fun k hk => by rw [hrf] at hk; cases hk
    have hv' : VRs F β w as (a.eval x :: ((lo.map a.eval).toList ++ (hi.map a.eval).toList ++ (mx.map a.eval).toList)) := by
      cases lo <;> cases hi <;> cases mx <;> simpa [Op.operands] using hv
    obtain ⟨a1, r1, rfl, h1, h2⟩ := hv'.consL
    cases lo <;> cases hi <;> cases mx <;> simp only [Option.isSome_none, Option.isSome_some, Option.map_none, Option.map_some, Option.toList_none, Option.toList_some, List.append_nil, List.nil_append, List.cons_append] at h h2 <;>
      first
      | (obtain rfl := VRs.nilL h2; exact fin _ _ _ _ h h1 trivial trivial trivial)
      | (obtain ⟨b1, rfl, k1⟩ := VRs.one h2; first | exact fin _ _ _ _ h h1 k1 trivial trivial | exact fin _ _ _ _ h h1 trivial k1 trivial)
      | (obtain ⟨b1, r2, rfl, k1, h3⟩ := h2.consL; obtain ⟨b2, rfl, k2⟩ := VRs.one h3; first | exact fin _ _ _ _ h h1 k1 k2 trivial | exact fin _ _ _ _ h h1 trivial k1 k2)
      | (obtain ⟨b1, r2, rfl, k1, h3⟩ := h2.consL; obtain ⟨b2, r3, rfl, k2, h4⟩ := h3.consL; obtain ⟨b3, rfl, k3⟩ := VRs.one h4; exact fin _ _ _ _ h h1 k1 k2 k3)
      | (simp at h; done)
      | cases h
  | convert src dst' x =>
    obtain ⟨a1, rfl, h1⟩ := VRs.one (by simpa [Op.operands] using hv)
    simp only [evalOp', evConvert] at h
    split at h
    · rename_i k0 k k1 n hs1 hs2
      obtain rfl := Option.some.inj h
      obtain ⟨e1, _⟩ := int_val h1
      have u1 := tyIs_int hs1; have u2 := tyIs_int hs2
      exact quiet _ (by simp [execOp, e1, convert, run_underlying u1, run_underlying u2, Conv.intToInt]) rfl (mk_int (wrap_wrap _ _)) fun k hk => by simp [AV.refs] at hk
    · rename_i s hs1 hs2
      obtain rfl := Option.some.inj h
      obtain ⟨e1, e2⟩ := str_val h1
      have u1 := tyIs_str hs1; have u2 := tyIs_str hs2
      exact quiet _ (by simp [execOp, e1, convert, run_underlying u1, run_underlying u2]) rfl (mk_str e2) fun k hk => by simp [AV.refs] at hk
    · obtain ⟨hw, hrf, u, hrun, hvr⟩ := evBytes_sound (P := P) h h1
      exact quiet u (by simp [execOp, hrun]) hw hvr fun k hk => by rw [hrf] at hk; cases hk
  | makeInterface t x =>
    obtain ⟨a1, rfl, h1⟩ := VRs.one (by simpa [Op.operands] using hv)
    simp only [evalOp', evIface] at h
    split at h
    · cases h
    · cases h
    · rename_i hu1 hu2
      obtain rfl := Option.some.inj h
      refine quiet (.iface t (a.eval x)) ?_ rfl ?_ fun k hk => hr k (mem1 (by simpa [AV.refs] using hk))
      · cases hu : P.underlying t with
        | none => exact absurd hu hu2
        | some d =>
          simp only [execOp, Instr.makeInterface, Sem.run_bind, run_underlying hu, Result.andThen_ok]
          cases d <;> first | rfl | exact absurd hu (hu1 _)
      · unfold VR; exact ⟨_, rfl, h1⟩
  | makeFunc fn first caps =>
    simp only [evalOp', Option.some.injEq] at h
    subst h
    have hv' : VRs F β w as (first.toList.map a.eval ++ caps.toList.map a.eval) := by simpa [Op.operands] using hv
    obtain ⟨p, q⟩ := hv'.split first.size
    have e1 : (first.toList.map a.eval ++ caps.toList.map a.eval).take first.size = first.toList.map a.eval := List.take_left' (by simp)
    have e2 : (first.toList.map a.eval ++ caps.toList.map a.eval).drop first.size = caps.toList.map a.eval := List.drop_left' (by simp)
    rw [e1] at p; rw [e2] at q
    refine quiet (.func fn (first.map a.eval) (caps.map a.eval)) (by simp [execOp, Instr.makeFunc]) rfl ?_ fun k hk => ?_
    · unfold VR; exact ⟨_, _, by congr 1 <;> (apply Array.ext'; simp), p, q⟩
    · simp only [AV.refs, List.mem_append] at hk
      refine hr k ?_
      rw [← List.take_append_drop first.size as, refsL_append]
      exact hk
  | binOp op t x y ty =>
    obtain ⟨a1, r, rfl, h1, h2⟩ := VRs.consL (by simpa [Op.operands] using hv)
    obtain ⟨a2, rfl, h3⟩ := VRs.one h2
    simp only [evalOp', evBinOp] at h
    have fin : (out.wr = [] ∧ out.v.refs = [] ∧ ∃ r, (do eqGuard op t x y (a.eval x) (a.eval y); binOp op t (a.eval x) (a.eval y) : Sem Value).run P w = .ok r w ∧ VR F β w out.v r) → Oper.wpIn (FR ro) 0 P { dst := dst, op := .binOp op t x y ty, type := type, pos := pos, after := after, guard := guard } a w next Q := by
      rintro ⟨hw, hrf, u, hrun, hvr⟩
      refine quiet u ?_ hw hvr fun k hk => by rw [hrf] at hk; cases hk
      simp only [execOp]
      rw [Sem.run_bind, hrun]; rfl
    split at h
    · rename_i r hb
      obtain rfl := Option.some.inj h
      exact fin (evBin_sound (P := P) hb hob h1 h3 t x y)
    · split at h
      · exact fin (evEq_sound (P := P) h h1 h3 .eql rfl x y)
      · exact fin (evEq_sound (P := P) h h1 h3 .neq rfl x y)
      · cases h
  | unOp op t x =>
    obtain ⟨a1, rfl, h1⟩ := VRs.one (by simpa [Op.operands] using hv)
    simp only [evalOp', evUn] at h
    split at h
    · obtain rfl := Option.some.inj h
      have e1 := bool_val h1
      exact quiet _ (by simp [execOp, e1, Op.unary]) rfl (mk_bool _) fun k hk => by simp [AV.refs] at hk
    · obtain rfl := Option.some.inj h
      obtain ⟨e1, _⟩ := int_val h1
      exact quiet _ (by simp [execOp, e1, Op.unary, Op.intArith]) rfl (mk_int (wrap_wrap _ _)) fun k hk => by simp [AV.refs] at hk
    · cases h
  | call c =>
    simp only [evalOp', evCall] at h
    obtain ⟨callee, cargs, ats⟩ := c
    cases callee with
    | invoke r m => cases h
    | builtin b =>
      simp only [evBuiltin] at h
      have hv' : VRs F β w as (cargs.toList.map a.eval) := by simpa [Op.operands, Call.operands] using hv
      split at h
      · rename_i t a1 hats
        obtain ⟨v, hlen, rfl⟩ := Option.map_eq_some_iff.1 h
        have hats' : ats = #[t] := by apply Array.ext'; simpa using hats
        subst hats'
        obtain ⟨u, r, e, h1, h2⟩ : ∃ u r, cargs.toList.map a.eval = u :: r ∧ VR F β w a1 u ∧ VRs F β w [] r := by unfold VRs at hv'; exact hv'
        unfold VRs at h2; subst h2
        have ec : cargs.map a.eval = #[u] := by apply Array.ext'; simpa using e
        obtain ⟨hrf, r, hrun, hvr⟩ := evLen_sound (P := P) (ty := type) hI hs hlen h1
        exact quiet r (by simp [execOp, resolve, invoke, builtin, ec, hrun]) rfl hvr fun k hk => by rw [hrf] at hk; cases hk
      · rename_i t tx s x hats
        have hats' : ats = #[t, tx] := by apply Array.ext'; simpa using hats
        subst hats'
        obtain ⟨u1, r, e, h1, h2⟩ : ∃ u r, cargs.toList.map a.eval = u :: r ∧ VR F β w s u ∧ VRs F β w [x] r := by unfold VRs at hv'; exact hv'
        obtain ⟨u2, r', rfl, h3, h4⟩ : ∃ u r', r = u :: r' ∧ VR F β w x u ∧ VRs F β w [] r' := by unfold VRs at h2; exact h2
        unfold VRs at h4; subst h4
        have ec : cargs.map a.eval = #[u1, u2] := by apply Array.ext'; simpa using e
        obtain ⟨u, w', β', hrun, hst⟩ := evAppend_sound (P := P) (ty := type) hI hs (hn nk (Nat.le_refl _) (by simp [gap])) h hob h1 h3
        exact wpR_val hdf (u := u) (w' := w') (by simp [execOp, resolve, invoke, builtin, ec, hrun]) (hnext _ _ _ _ hst)
      · cases h
    | value f =>
      simp only [evCallFn] at h
      have hv' : VRs F β w as (a.eval f :: cargs.toList.map a.eval) := by simpa [Op.operands, Call.operands] using hv
      split at h
      · rename_i g first caps args
        obtain ⟨u, r, e, h1, h2⟩ : ∃ u r, a.eval f :: cargs.toList.map a.eval = u :: r ∧ VR F β w (.fn (.func g) first caps) u ∧ VRs F β w args r := by unfold VRs at hv'; exact hv'
        injection e with e1 e2
        subst e1; subst e2
        split at h
        · cases h
        rename_i hg
        unfold VR at h1
        obtain ⟨x, y, e1, hx, hy⟩ := h1
        have hvs := (hx.append h2).append hy
        have hrun : (execOp a.eval { dst := dst, op := .call { callee := .value f, args := cargs, argTypes := ats }, type := type, pos := pos, after := after, guard := guard }).run P w = .ok (.enter g (x ++ cargs.toList.map a.eval ++ y).toArray) w := by
          have := (evCallArgs_sound (F := F) (β := β) (al := al) (rg := rg) (w := w) hS h).1 hg (x ++ cargs.toList.map a.eval ++ y).toArray w
          have e3 : x.toArray ++ cargs.map a.eval ++ y.toArray = (x ++ cargs.toList.map a.eval ++ y).toArray := by apply Array.ext'; simp
          simp only [List.append_assoc] at this e3
          simp [execOp, resolve, e1, Deferred.ofValue, invoke, e3, this]
        refine ⟨fun _ _ => trivial, ?_⟩
        rw [Oper.semAt_eq _ _ _ hdf, hrun, Oper.uponIn_enter]
        refine ⟨fun h => by simp [FR, Fence.wide] at h, callsFR.2 ?_⟩
        refine (((CallsT.fn hg).1 ((evCallArgs_sound hS h).2 hob _ hI hs hn (fun k hk => hr k ?_) hvs))).mono ?_
        · simp only [refsL_append] at hk
          simp only [refsL, AV.refs, List.mem_append]
          rcases hk with (hk | hk) | hk
          · exact .inl (.inl hk)
          · exact .inr hk
          · exact .inl (.inr hk)
        · rintro e w' ⟨u, F', β', rfl, hst⟩
          exact hnext _ _ _ _ hst
      · rename_i k args
        have hv0 := hv'
        obtain ⟨u, r, e, h1, h2⟩ : ∃ u r, a.eval f :: cargs.toList.map a.eval = u :: r ∧ VR F β w (.yld k) u ∧ VRs F β w args r := by unfold VRs at hv'; exact hv'
        injection e with e1 e2
        subst e1; subst e2
        unfold VR at h1
        have hcall := (evCallArgs_sound (F := F) (β := β) (al := al) (rg := rg) (w := w) hS h).2 hob _ hI hs hn (fun k hk => hr k hk) hv0
        unfold CallsT at hcall
        rw [if_pos rfl] at hcall
        obtain ⟨l, rec, rest, h3, h4, h5, h6⟩ := hcall
        have h3' := congrArg Array.toList h3
        simp only [List.toList_toArray] at h3'
        injection h3' with h7 h8
        have hl : a.eval f = .func (.yield l) #[] #[] := h7
        have hargs : rest.toArray = cargs.map a.eval := by rw [← h8]; apply Array.ext'; simp
        have hrun : (execOp a.eval { dst := dst, op := .call { callee := .value f, args := cargs, argTypes := ats }, type := type, pos := pos, after := after, guard := guard }).run P w =
            .ok (.round l rec.fn ((rec.params.zip rest.toArray).foldl (fun tmps (t, a) => tmps.setIfInBounds t a) rec.tmps) rec.assign rec.body) w := by
          have := run_yield (P := P) (args := rest.toArray) h4 (by simpa using h5)
          rw [hargs] at this ⊢
          simp [execOp, resolve, hl, Deferred.ofValue, invoke, this]
        refine ⟨fun _ _ => trivial, ?_⟩
        rw [Oper.semAt_eq _ _ _ hdf, hrun, Oper.uponIn_round]
        refine ⟨fun h => by simp [FR, Fence.wide] at h, (roundFR h6).mono ?_⟩
        rintro e w' ⟨u, F', β', rfl, hst⟩
        exact hnext _ _ _ _ hst
      · cases h
  | _ => simp [evalOp'] at h
end
end Go.Abs
