/-
Structs and literals built.
-/
import Derived.Test.YtoopjhnbcbnleaaDoorA7
import Derived.Laws.Tables
namespace Go.Abs
open Go.RowKit
set_option linter.unusedVariables false
set_option linter.unusedSimpArgs false
set_option linter.unnecessarySimpa false

section
variable {P : Program} {F : Nat → Prop} {β : Nat → Base} {al : Nat → Prop} {rg rgK : Nat → Reg} {w : World}

theorem fold_set (off : Nat) : ∀ (L pre mid post : List Value) (j0 : Nat) (cs : Array Value), cs = (pre ++ mid ++ post).toArray → pre.length = off + j0 → mid.length = L.length →
    (L.zipIdx j0).foldl (fun (cs : Array Value) p => cs.setIfInBounds (off + p.2) p.1) cs = (pre ++ L ++ post).toArray
  | [], pre, mid, post, j0, cs, h, _, hm => by
    obtain rfl : mid = [] := List.eq_nil_of_length_eq_zero hm
    simpa using h
  | v :: L, pre, mid, post, j0, cs, h, hp, hm => by
    match mid, hm with
    | x :: mid, hm =>
      subst h
      rw [List.zipIdx_cons, List.foldl_cons]
      have := fold_set off L (pre ++ [v]) mid post (j0 + 1) ((pre ++ x :: mid ++ post).toArray.setIfInBounds (off + j0) v) (by
        apply Array.ext'
        simp only [List.setIfInBounds_toArray]
        rw [List.append_assoc, List.set_append_right _ _ (by omega)]
        simp [hp]) (by simp [hp]; omega) (by simpa using hm)
      rw [this]; simp

/-- One part laid in. -/
theorem fill_step {place : Nat → Option (Nat × Nat)} {i : Nat} {v : Value} {rest : List (Nat × Value)} {off size : Nat} {pre mid post : List Value} (hp : place i = some (off, size)) (hl : pre.length = off) (hm : mid.length = size) (hv : v.cells.size = size) :
    Instr.fill place (pre ++ mid ++ post).toArray ((i, v) :: rest) = Instr.fill place (pre ++ v.cells.toList ++ post).toArray rest := by
  rw [Instr.fill]
  simp only [hp]
  have hsz : (pre ++ mid ++ post).toArray.size = off + size + post.length := by simp [hl, hm]; omega
  have hno : ¬ ((v.cells.size ≠ size || decide (off + v.cells.size > (pre ++ mid ++ post).toArray.size)) = true) := by
    rw [hv, hsz]; simp
  rw [if_neg (by simpa using hno)]
  congr 1
  rw [← Array.foldl_toList, Array.toList_zipIdx]
  exact fold_set off v.cells.toList pre mid post 0 _ rfl (by omega) (by simp [hm, hv])

theorem setParts_sound {places : List (Nat × Nat)} : ∀ {parts : List Nat} {vs : List AV} {us : List Value} {cs cs' : List AV} {ws : List Value}, parts.length = vs.length → setParts places (parts.zip vs) cs = some cs' → VRs F β w vs us → CRs F β w cs ws →
    ∃ ws', Instr.fill (places[·]?) ws.toArray (parts.zip us) = some ws'.toArray ∧ CRs F β w cs' ws'
  | [], vs, us, cs, cs', ws, hl, h, hv, hc => by
    simp [setParts] at h; subst h
    exact ⟨ws, by simp [Instr.fill], hc⟩
  | i :: parts, [], us, cs, cs', ws, hl, h, hv, hc => by simp at hl
  | i :: parts, v :: vs, us, cs, cs', ws, hl, h, hv, hc => by
    unfold VRs at hv
    obtain ⟨u, r, rfl, hv1, hv2⟩ := hv
    rw [List.zip_cons_cons] at h ⊢
    simp only [setParts] at h
    split at h
    · rename_i pl hpl
      split at h
      · rename_i p q h1
        split at h
        · rename_i m q' h2
          split at h
          · rename_i hw
            obtain ⟨x, y, rfl, hx, hcp, hcq⟩ := CRs.split h1 hc
            obtain ⟨x2, y2, rfl, hx2, hcm, hcq'⟩ := CRs.split h2 hcq
            have hcells := hv1.cells_len hw.2
            have := fill_step (rest := parts.zip r) (post := y2) (v := u) (pre := x) (mid := x2) (i := i) (place := (places[·]?)) (off := pl.1) (size := pl.2) hpl hx hx2 (by rw [hcells, hw.1])
            rw [← List.append_assoc, this]
            exact setParts_sound (by simpa using hl) h hv2 (CRs.append.2 ⟨x ++ u.cells.toList, y2, rfl, CRs.append.2 ⟨x, _, rfl, hcp, hv1.comps hw.2⟩, hcq'⟩)
          · cases h
        · cases h
      · cases h
    · cases h

theorem ofCell_sound {v : Value} (h : v.oneCell' = true) : CRs F β w [ofCell v] [v] := by
  have bad : ∀ a : AV, a.isDat = false → VR F β w a v → CRs F β w [a] [v] := fun a ha hv => (CRs.oneCons ha).2 ⟨v, [], rfl, h, hv, by unfold CRs; rfl⟩
  have dat : ∀ (t : Ty) (x : t.car), RD F w t x [v] → CRs F β w [.dat t x] [v] := fun t x hr => by unfold CRs; exact ⟨[v], [], rfl, hr, by unfold CRs; rfl⟩
  have b : CRs F β w [.bad] [v] := bad _ rfl (by unfold VR; trivial)
  unfold ofCell
  split
  · split
    · exact dat (.int _) _ ⟨rfl, by assumption⟩
    · exact b
  · exact dat .bool _ (show [_] = [_] from rfl)
  · split
    · exact dat .str _ ⟨rfl, by assumption⟩
    · exact b
  · exact b
  · exact b
  · exact bad _ rfl (by unfold VR; exact ⟨rfl, h⟩)

theorem ofCells_sound : ∀ {vs : List Value}, (∀ v ∈ vs, v.oneCell' = true) → CRs F β w (vs.map ofCell) vs
  | [], _ => by unfold CRs; rfl
  | v :: vs, h => by
    rw [List.map_cons]
    exact CRs.append (as := [ofCell v]).2 ⟨[v], vs, rfl, ofCell_sound (h v (by simp)), ofCells_sound fun u hu => h u (by simp [hu])⟩

theorem ofCell_refs (v : Value) : (ofCell v).refs = [] := by
  unfold ofCell
  split <;> (try split) <;> rfl
theorem ofConst_refs (v : Value) : (ofConst v).refs = [] := by
  unfold ofConst
  split
  · split
    · simp only [AV.refs]
      rw [List.eq_nil_iff_forall_not_mem]
      intro k hk
      rw [mem_refsL] at hk
      obtain ⟨a, ha, hk⟩ := hk
      obtain ⟨v, _, rfl⟩ := List.mem_map.1 ha
      rw [ofCell_refs] at hk; cases hk
    · rfl
  · split <;> rfl
  · exact ofCell_refs v

theorem ofConst_sound (v : Value) : VR F β w (ofConst v) v := by
  unfold ofConst
  split
  · rename_i cs
    split
    · rename_i h
      unfold VR
      exact ⟨cs.toList, by simp, ofCells_sound fun v hv => by
        have := Array.all_eq_true_iff_forall_mem.1 h v (by simpa using hv); exact this⟩
    · unfold VR; trivial
  · rename_i cs
    split
    · rename_i h
      unfold VR
      have : cs = #[] := Array.eq_empty_of_size_eq_zero h
      exact ⟨[], by simp [this], VRs.nil⟩
    · unfold VR; trivial
  · rename_i h1 h2
    have ho : v.oneCell' = true := by cases v <;> first | rfl | exact absurd rfl (h1 _) | exact absurd rfl (h2 _)
    have hc := ofCell_sound (F := F) (β := β) (w := w) ho
    unfold ofCell at hc ⊢
    split
    · split
      · exact mk_int (by assumption)
      · unfold VR; trivial
    · exact mk_bool _
    · split
      · exact mk_str (by assumption)
      · unfold VR; trivial
    · unfold VR; trivial
    · unfold VR; trivial
    · unfold VR; exact ⟨rfl, ho⟩

theorem setParts_refs {places : List (Nat × Nat)} {k : Nat} : ∀ {ps : List (Nat × AV)} {cs cs' : List AV}, setParts places ps cs = some cs' → k ∈ refsL cs' → k ∈ refsL cs ∨ ∃ p ∈ ps, k ∈ p.2.refs
  | [], cs, cs', h, hk => by simp [setParts] at h; subst h; exact .inl hk
  | (i, v) :: ps, cs, cs', h, hk => by
    simp only [setParts] at h
    split at h
    · split at h
      · rename_i p q h1
        split at h
        · rename_i m q' h2
          split at h
          · rcases setParts_refs h hk with hk | ⟨x, hx, hk⟩
            · simp only [refsL_append] at hk
              rcases hk with (hk | hk) | hk
              · exact .inl (split_refs h1 k (.inl hk))
              · exact .inr ⟨(i, v), by simp, comps_refs hk⟩
              · exact .inl (split_refs h1 k (.inr (split_refs h2 k (.inr hk))))
            · exact .inr ⟨x, by simp [hx], hk⟩
          · cases h
        · cases h
      · cases h
    · cases h

theorem evBuild_sound {t : TypeId} {ps : List Nat} {vs : List AV} {us : List Value} {out : Out} (h : evBuild P t ps vs = some out) (hv : VRs F β w vs us) (hr : ∀ k ∈ refsL vs, al k) :
    out.wr = [] ∧ out.ob = [] ∧ (∀ k ∈ out.v.refs, al k) ∧ ∃ cells, P.built t (ps.zip us) = some cells ∧ VR F β w out.v (.agg cells) := by
  unfold evBuild at h
  split at h
  · rename_i fs i hu hi
    split at h
    · rename_i z places hz hpl
      split at h
      · rename_i hh
        obtain ⟨cs, hcs, rfl⟩ := Option.map_eq_some_iff.1 h
        have hc0 : CRs F β w (z.toList.map ofCell) z.toList := ofCells_sound fun v hv => by
          have := Array.all_eq_true_iff_forall_mem.1 hh.1 v (by simpa using hv); exact this
        obtain ⟨ws', h1, h2⟩ := setParts_sound hh.2 hcs hv hc0
        refine ⟨rfl, rfl, fun k hk => ?_, ws'.toArray, ?_, ?_⟩
        · rcases setParts_refs hcs (by simpa [AV.refs] using hk) with hk | ⟨p, hp, hk⟩
          · rw [mem_refsL] at hk
            obtain ⟨a, ha, hk⟩ := hk
            obtain ⟨v, _, rfl⟩ := List.mem_map.1 ha
            rw [ofCell_refs] at hk; cases hk
          · exact hr k (mem_refsL.2 ⟨p.2, (List.of_mem_zip (a := p.1) (b := p.2) hp).2, hk⟩)
        · unfold Program.built
          unfold placesOf at hpl
          simp only [hu, hi, hz, hpl]
          simpa [Value.cells] using h1
        · unfold VR; exact ⟨ws', by simp, h2⟩
      · cases h
    · cases h
  · cases h

theorem getAll_sound {e : Ty} : ∀ {vs : List AV} {us : List Value} {xs : List e.car}, (vs.mapM fun v => AV.get? e v) = some xs → (∀ v ∈ vs, v.solid = true) → VRs F β w vs us → RD F w (.arr vs.length e) xs (us.map fun u => u.cells.toList).flatten ∧ xs.length = vs.length ∧ us.length = vs.length ∧ ∀ u ∈ us, u.cells.size = e.nc
  | [], us, xs, h, _, hv => by
    simp at h; subst h
    unfold VRs at hv; subst hv
    exact ⟨⟨rfl, [], rfl, rfl, fun i x c h => by simp at h⟩, rfl, rfl, fun u hu => by simp at hu⟩
  | v :: vs, us, xs, h, hs, hv => by
    unfold VRs at hv
    obtain ⟨u, r, rfl, hv1, hv2⟩ := hv
    simp only [List.mapM_cons, Option.bind_eq_bind, Option.pure_def] at h
    cases h1 : AV.get? e v with
    | none => simp [h1] at h
    | some x =>
      cases h2 : (vs.mapM fun v => AV.get? e v) with
      | none => simp [h1, h2] at h
      | some ys =>
        simp [h1, h2] at h
        subst h
        obtain ⟨⟨hl, css, hcss, hn, hc⟩, h3, h4, h5⟩ := getAll_sound h2 (fun v hv => hs v (by simp [hv])) hv2
        have hx := AV.get_sound h1 (hs v (by simp)) hv1
        refine ⟨⟨by simp [hl], u.cells.toList :: css, ?_, by simp [hn], fun i y c ha hb => ?_⟩, by simp [h3], by simp [h4], fun u' hu' => ?_⟩
        · rw [List.map_cons, List.flatten_cons, List.flatten_cons, hcss]
        · cases i with
          | zero => simp at ha hb; subst ha; subst hb; exact hx
          | succ i => exact hc i y c (by simpa using ha) (by simpa using hb)
        · rcases List.mem_cons.1 hu' with rfl | hu'
          · have := hx.len; simpa using this
          · exact h5 u' hu'

theorem fill_row {size : Nat} : ∀ (us : List Value) (pre : List Value) (i : Nat) (post : List Value), pre.length = i * size → post.length = us.length * size → (∀ u ∈ us, u.cells.size = size) →
    Instr.fill (fun i => some (i * size, size)) (pre ++ post).toArray ((List.range' i us.length).zip us) = some (pre ++ (us.map fun u => u.cells.toList).flatten).toArray
  | [], pre, i, post, hp, hq, _ => by
    have : post = [] := List.eq_nil_of_length_eq_zero (by simpa using hq)
    subst this
    simp [Instr.fill]
  | u :: us, pre, i, post, hp, hq, hs => by
    rw [List.length_cons, List.range'_succ, List.zip_cons_cons]
    have hsz : size ≤ post.length := by rw [hq, List.length_cons, Nat.add_mul]; omega
    have e1 : pre ++ post = pre ++ post.take size ++ post.drop size := by rw [List.append_assoc, List.take_append_drop]
    rw [e1, fill_step (place := fun i => some (i * size, size)) (off := i * size) (size := size) rfl hp (by rw [List.length_take]; omega) (hs u (by simp))]
    rw [fill_row us (pre ++ u.cells.toList) (i + 1) (post.drop size) (by rw [List.length_append, hp, Array.length_toList, hs u (by simp), Nat.add_mul, Nat.one_mul]) (by rw [List.length_drop, hq, List.length_cons, Nat.add_mul]; omega) (fun v hv => hs v (by simp [hv]))]
    simp

theorem run_buildSlice {t te : TypeId} {n : Nat} {ps : Array (Nat × Value)} {inf : TypeInfo} {z : Value} {cells : Array Value} (hut : P.underlying t = some (.slice te)) (hinf : P.info? te = some inf) (hz : inf.zero = some z)
    (hbig : n * inf.size ≤ 16777216) (hf : ∀ zero : Array Value, Instr.fill (fun i => some (i * inf.size, inf.size)) ((Array.range (n * inf.size)).map (zero[· % zero.size]!)) ps.toList = some cells) :
    (Instr.buildSlice t n ps).run P w = .ok (.slice (some ⟨w.heap.size, 0, none⟩) n n) (w.alloc (.cells cells te)) := by
  have h1 : ¬ 16777216 < n * inf.size := by omega
  by_cases h0 : n * inf.size = 0
  · have hf' := hf #[]
    rw [h0] at hf'
    simp at hf'
    simp [Instr.buildSlice, run_underlying hut, sizeOf, typeInfo, hinf, h0, newRow, newObj, Sem.run, hf']
  · simp [Instr.buildSlice, run_underlying hut, sizeOf, typeInfo, zeroValue, hinf, hz, h0, h1, newRow, newObj, Sem.run, hf z.cells]

/-- A literal of a slice's type. -/
theorem evBuildSlice_sound {t : TypeId} {n : Nat} {ps : Array (Nat × Value)} {vs : List AV} {us : List Value} {out : Out} (hI : Inv F β al rg w) (h : evBuildSlice P t n (ps.toList.map (·.1)) vs = some out) (hv : VRs F β w vs us) (hu : ps.toList.map (·.2) = us) :
    out.ob = [] ∧ ∃ u w' F', (Instr.buildSlice t n ps).run P w = .ok u w' ∧ Step F β al rg w out.v out.wr F' β w' u := by
  unfold evBuildSlice at h
  split at h
  · rename_i te hte
    split at h
    · rename_i e inf hty hinf
      split at h
      · rename_i z hz
        split at h
        · rename_i hh
          obtain ⟨hp, hn, hmax, hmax2, hsol⟩ := hh
          have hut := elemOf_spec hte
          obtain ⟨hnc, _, _, _⟩ := tyIs_spec hty
          have hsz : inf.size = e.nc := by rw [hnc]; simp [Program.cellsOf, hinf]
          have hzip : ps.toList = (List.range' 0 us.length).zip us := by
            have h1 : us.length = n := by
              have := congrArg List.length hp; rw [← hu]; simpa using this
            have h2 : ps.toList = (ps.toList.map (·.1)).zip (ps.toList.map (·.2)) := by
              generalize ps.toList = l
              induction l with
              | nil => rfl
              | cons a l ih => simp [← ih]
            rw [h2, hp, hu, h1, List.range_eq_range']
          have hsolid : ∀ v ∈ vs, v.solid = true := fun v hv => by
            have := List.all_eq_true.1 hsol v hv; exact this
          have hlu : us.length = n := by have := congrArg List.length hp; rw [← hu]; simpa using this
          have hrun : (∀ u ∈ us, u.cells.size = e.nc) → (Instr.buildSlice t n ps).run P w = .ok (.slice (some ⟨w.heap.size, 0, none⟩) n n) (w.alloc (.cells (us.map fun u => u.cells.toList).flatten.toArray te)) := fun hcs => by
            refine run_buildSlice hut hinf hz (by rw [hsz]; exact hmax) fun zero => ?_
            have := fill_row (size := e.nc) us [] 0 ((Array.range (n * e.nc)).map (zero[· % zero.size]!)).toList (by simp) (by simp [hlu]) hcs
            rw [List.nil_append, List.nil_append, ← hzip] at this
            rw [hsz]; exact this
          split at h
          · rename_i h0
            obtain rfl := Option.some.inj h
            subst h0
            have hus : us = [] := List.eq_nil_of_length_eq_zero hlu
            subst hus
            refine ⟨rfl, _, _, F, hrun (fun u hu => by simp at hu), Step.quiet hI (Chg.of_below ((Below.refl _ w).alloc (Nat.le_refl _) _)) ?_ fun k hk => by simp [AV.refs] at hk⟩
            unfold VR; exact ⟨_, rfl⟩
          · rename_i h0
            split at h
            · rename_i xs hxs
              obtain rfl := Option.some.inj h
              obtain ⟨hrd, hxl, _, hcs⟩ := getAll_sound hxs hsolid hv
              have hchg : Chg (fun _ _ => False) w (w.alloc (.cells (us.map fun u => u.cells.toList).flatten.toArray te)) := Chg.of_below ((Below.refl _ w).alloc (Nat.le_refl _) _)
              have hsame : Same F w (w.alloc (.cells (us.map fun u => u.cells.toList).flatten.toArray te)) := by
                intro b j hb v hv
                rw [hchg.cell b j (hI.ff b hb) fun h => h]; exact hv
              have hF : ∀ b, F b → F b ∨ b = w.heap.size := fun _ h => .inl h
              have hI' : Inv (fun b => F b ∨ b = w.heap.size) β al rg (w.alloc (.cells (us.map fun u => u.cells.toList).flatten.toArray te)) := by
                have k := hI.keep hchg
                exact ⟨fun j => (k.ok j).keep (fun _ h => .inl h) (fun b i hb v hv => hv) (fun _ _ => rfl) (Nat.le_refl _) fun _ _ _ => ⟨rfl, rfl, fun _ => rfl⟩, k.dj, fun j b i hf hb => hb.elim (k.nf j b i hf) (fun e => by have := (hI.ok j).lt hf; omega),
                  fun b hb => hb.elim (k.ff b) (fun e => by subst e; rw [World.size_alloc]; exact Nat.lt_succ_self _), k.tk, k.sc⟩
              have hrow := arr_row (hrd.mono (F' := fun b => F b ∨ b = w.heap.size) hF hsame) (b := w.heap.size) (o := 0) fun i v hi => by
                have e1 := World.cell?_alloc_new w (us.map fun u => u.cells.toList).flatten.toArray te i
                rw [Nat.zero_add, e1, List.getElem?_toArray]; exact hi
              have hnn : n ≤ maxI ∨ True := .inr trivial
              refine ⟨rfl, _, _, _, hrun hcs, ⟨hF, fun b hb => hb.imp id (fun e => by omega), fun _ _ => rfl, ?_, hI'.al_ext fun _ h => .inl h, hchg.mono fun _ _ _ h => h.elim, fun k hk => by simp [AV.refs] at hk, fun k b i h => .inl ⟨k, h⟩⟩⟩
              have hxn : xs.length = n := by rw [hxl, hn]
              unfold VR
              refine ⟨some ⟨w.heap.size, 0, none⟩, by rw [hxn], _, _, by rw [hxn], by rw [hxn]; exact Nat.le_refl _, ?_, .inr ⟨_, _, rfl, .inr rfl, hrow⟩⟩
              show xs.length ≤ 9223372036854775807
              omega
            · cases h
        · cases h
      · cases h
    · cases h
  · cases h
end
end Go.Abs
