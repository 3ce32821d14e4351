/-
Appending.
-/
import Derived.Test.YtoopjhnbcbnleaaDoorA6
import Derived.Laws.Append
import Derived.Laws.AppendOwn
import Derived.Deep.Upon
namespace Go.Abs
open Go.RowKit
set_option linter.unusedVariables false
set_option linter.unusedSimpArgs false
set_option linter.unnecessarySimpa false

section
variable {P : Program} {F : Nat → Prop} {β : Nat → Base} {al : Nat → Prop} {rg rgK : Nat → Reg} {w : World}

/-- Elements in line, as cells. -/
theorem row_arr {e : Ty} : ∀ {xs : List e.car} {b o : Nat}, RowAt w e.nc (RD F w e) xs b o → ∃ cs, RD F w (.arr xs.length e) xs cs ∧ Lies w b o cs
  | [], b, o, _ => ⟨[], ⟨rfl, [], rfl, rfl, fun i x c h => by simp at h⟩, fun i v h => by simp at h⟩
  | x :: xs, b, o, h => by
    obtain ⟨vs, h1, h2⟩ := h 0 x rfl
    have ht : RowAt w e.nc (RD F w e) xs b (o + e.nc) := by
      intro i y hi
      obtain ⟨us, h3, h4⟩ := h (i + 1) y (by simpa using hi)
      refine ⟨us, h3, fun j v hj => ?_⟩
      have := h4 j v hj
      rw [Nat.add_mul, Nat.one_mul] at this
      rwa [show o + e.nc + i * e.nc + j = o + (i * e.nc + e.nc) + j by omega]
    obtain ⟨cs, ⟨hl, css, rfl, hn, hc⟩, h4⟩ := row_arr ht
    refine ⟨vs ++ css.flatten, ⟨rfl, vs :: css, rfl, by simp [hn], fun i y c hi hj => ?_⟩, fun i v hi => ?_⟩
    · cases i with
      | zero => simp at hi hj; subst hi; subst hj; exact h1
      | succ i => exact hc i y c (by simpa using hi) (by simpa using hj)
    · have hvl := h1.len
      by_cases hlt : i < vs.length
      · rw [List.getElem?_append_left hlt] at hi
        have := h2 i v hi
        rwa [Nat.zero_mul, Nat.add_zero] at this
      · rw [List.getElem?_append_right (by omega)] at hi
        have := h4 _ v hi
        rwa [show o + e.nc + (i - vs.length) = o + i by omega] at this

theorem arr_row {e : Ty} {n : Nat} {xs : List e.car} {cs : List Value} {b o : Nat} (h : RD F w (.arr n e) xs cs) (hl : Lies w b o cs) : RowAt w e.nc (RD F w e) xs b o := by
  obtain ⟨hn, css, rfl, hcn, hc⟩ := h
  intro i x hi
  have hx : i < xs.length := (List.getElem?_eq_some_iff.1 hi).1
  have hx' : i < css.length := by omega
  have hci := hc i x _ hi (List.getElem?_eq_getElem hx')
  refine ⟨css[i], hci, fun j v hj => ?_⟩
  have hall : ∀ c ∈ css, c.length = e.nc := by
    intro c hm
    obtain ⟨i, hi, rfl⟩ := List.getElem_of_mem hm
    exact (hc i _ _ (List.getElem?_eq_getElem (by omega)) (List.getElem?_eq_getElem hi)).len
  have hlen : (css.take i).flatten.length = i * e.nc := by
    rw [flatten_len (n := e.nc) fun c hc => hall c (List.mem_of_mem_take hc), List.length_take, Nat.min_eq_left (by omega)]
  have : css.flatten = (css.take i).flatten ++ (css[i] ++ (css.drop (i + 1)).flatten) := by
    conv => lhs; rw [← List.take_append_drop i css, List.drop_eq_getElem_cons hx']
    rw [List.flatten_append, List.flatten_cons]
  rw [this] at hl
  have := hl.app.2.app.1 j v hj
  rwa [hlen] at this

theorem arr_append {e : Ty} {n m : Nat} {xs ys : List e.car} {cs ds : List Value} (h : RD F w (.arr n e) xs cs) (k : RD F w (.arr m e) ys ds) : RD F w (.arr (n + m) e) (xs ++ ys) (cs ++ ds) := by
  obtain ⟨hn, css, rfl, hcn, hc⟩ := h
  obtain ⟨km, kss, rfl, kcn, kc⟩ := k
  refine ⟨by simp [hn, km], css ++ kss, by simp, by simp [hcn, kcn], fun i x c h1 h2 => ?_⟩
  by_cases hi : i < n
  · rw [List.getElem?_append_left (by omega)] at h1 h2
    exact hc i x c h1 h2
  · rw [List.getElem?_append_right (by omega)] at h1 h2
    rw [hn] at h1; rw [hcn] at h2
    exact kc _ x c h1 h2

theorem arr_bytes (s : ByteArray) : RD F w (.arr s.size (.int .u8)) (s.data.toList.map fun b => ((b.toNat : Int) : (Ty.int .u8).car)) (byteCells s) := by
  refine ⟨by simp, (s.data.toList.map fun b => [Value.int .u8 b.toNat]), ?_, by simp, fun i x c h1 h2 => ?_⟩
  · unfold byteCells
    generalize s.data.toList = l
    induction l with
    | nil => rfl
    | cons a l ih => simp [ih]
  · rw [List.getElem?_map] at h1 h2
    obtain ⟨b, hb, rfl⟩ := Option.map_eq_some_iff.1 h1
    rw [hb] at h2
    simp at h2
    subst h2
    refine ⟨rfl, ?_⟩
    rw [wrap_iff]
    have := b.toNat_lt
    simp only [IntKind.min, IntKind.max, IntKind.signed, IntKind.bits]
    constructor
    · simp
    · simp; omega

/-- What is appended. -/
theorem srcOf_sound {tx : TypeId} {e : Ty} {x : AV} {u : Value} {ys : List e.car} (hI : Inv F β al rg w) (hs : SubR rgK rg) (h : srcOf P tx e x rgK = some ys) (hx : VR F β w x u) :
    ∃ news, Src P e.nc tx u ys.length news w ∧ RD F w (.arr ys.length e) ys news ∧ ys.length ≤ maxI := by
  have mk : ∀ (A : Option Addr) (c : Nat) (te : TypeId), elemOf P tx = some te → (ys = [] ∨ ∃ b o, A = some ⟨b, o, none⟩ ∧ RowAt w e.nc (RD F w e) ys b o) → ∃ news, Src P e.nc tx (.slice A ys.length c) ys.length news w ∧ RD F w (.arr ys.length e) ys news := by
    intro A c te hte hrow
    have hk := elemOf_spec hte
    rcases hrow with rfl | ⟨b, o, rfl, hr⟩
    · refine ⟨[], ?_, rfl, [], rfl, rfl, fun i x c h => by simp at h⟩
      cases A with
      | none => exact Src.ofNil w hk c
      | some a => exact Src.ofSlice w hk a 0 c [] (by simp) (fun j u h => by simp at h) (fun u h => by simp at h)
    · obtain ⟨cs, h1, h2⟩ := row_arr hr
      exact ⟨cs, Src.ofSlice w hk _ _ c cs (by rw [h1.len]; rfl) (fun j u hj => by rw [Addr.add_mid]; exact h2 j u hj) h1.one, h1⟩
  unfold srcOf at h
  split at h
  · rename_i s
    obtain ⟨rfl, hsz⟩ := str_val hx
    split at h
    · rename_i hu
      split at h
      · rename_i he
        subst he
        obtain rfl := Option.some.inj h
        have hb : (s : ByteArray).size = ((s : ByteArray).data.toList.map fun b => ((b.toNat : Int) : (Ty.int .u8).car)).length := by simp
        have hn := Src.ofString (P := P) w hu s
        have hr := arr_bytes (F := F) (w := w) s
        refine ⟨byteCells s, ?_, ?_, ?_⟩
        · rw [← hb]; exact hn
        · rw [← hb]; exact hr
        · rw [← hb]; exact hsz
      · cases h
    · cases h
  · rename_i hnd
    split at h
    · rename_i te hte
      split at h
      · rename_i hv
        by_cases ha : ∃ k, x = .arr k
        · obtain ⟨k, rfl⟩ := ha
          unfold VR at hx
          subst hx
          have own : ∀ (t' : Ty) (xs : List t'.car), Arr F w (β k) t' xs → AV.get? (.list e) (.dat (.list t') xs) = some ys → ∃ news, Src P e.nc tx (.slice (β k).A (β k).len (β k).cap) ys.length news w ∧ RD F w (.arr ys.length e) ys news ∧ ys.length ≤ maxI := by
            intro t' xs hA hg
            have he : t' = e := by
              by_cases he : t' = e
              · exact he
              · simp [AV.get?, AV.comps, asm, he, asmGo] at hg
            subst he
            obtain rfl : xs = ys := by simpa [AV.get?, AV.comps, asm] using hg
            have := mk (β k).A (β k).cap te hte (by
              by_cases hz : xs = []
              · exact .inl hz
              · right
                have hpos : 0 < (β k).cap := by have := hA.cap; have : 0 < xs.length := List.length_pos_iff.2 hz; omega
                exact ⟨_, _, hA.adr hpos, hA.row hpos⟩)
            rw [← hA.len] at this
            obtain ⟨news, h1, h2⟩ := this
            rw [hA.len] at h1 h2
            exact ⟨news, by rw [hA.len]; exact h1, h2, hA.max⟩
          cases hk : rgK k with
          | arr t' xs =>
            have hok := hI.ok k; rw [hs.at hk (by simp)] at hok
            exact own t' xs hok (by simpa [AV.view, hk] using h)
          | own t' xs =>
            have hok := hI.ok k; rw [hs.at hk (by simp)] at hok
            exact own t' xs hok.1 (by simpa [AV.view, hk] using h)
          | cells cs => simp [AV.view, hk, AV.solid] at hv
          | fz t' xs => simp [AV.view, hk, AV.solid] at hv
          | loop L tm j => simp [AV.view, hk, AV.solid] at hv
          | dead => simp [AV.view, hk, AV.solid] at hv
        · have hview : x.view rgK = x := by
            cases x <;> first | rfl | exact absurd ⟨_, rfl⟩ ha
          rw [hview] at h hv
          have hc := hx.flatCells hv.2 hv.1
          have hr := AV.get_sound h hv.2 hx
          rw [hc] at hr
          obtain ⟨A, c, e1, h1, h2, h3⟩ := hr
          simp only [List.cons.injEq, and_true] at e1
          subst e1
          obtain ⟨news, a, b⟩ := mk A c te hte (h3.imp id fun ⟨b, o, e, _, r⟩ => ⟨b, o, e, r⟩)
          exact ⟨news, a, b, h2⟩
      · cases h
    · cases h

/-- There is no room: a new row. -/
theorem app_grow {t tx ty te : TypeId} {i : TypeInfo} {z u : Value} {e : Ty} {A : Option Addr} {n0 c0 : Nat} {xs ys : List e.car} {olds news : List Value} (ht : P.underlying t = some (.slice te)) (hi : P.info? te = some i) (hz : i.zero = some z)
    (hsz : i.size = e.nc) (hzs : z.cells.size = e.nc) (hn0 : xs.length = n0) (hold : (Builtin.firstCells e.nc n0 (.slice A n0 c0)).run P w.drew = .ok olds.toArray w.drew) (hx : RD F w (.arr n0 e) xs olds) (hs : Src P e.nc tx u ys.length news w) (hy : RD F w (.arr ys.length e) ys news)
    (hg : c0 < n0 + ys.length) (hb : 0 < i.bytes) (hroom : n0 + ys.length ≤ 140737488355328 / i.bytes) (hF : ∀ b, F b → b < w.heap.size) :
    ∃ cap w', (Builtin.append_ #[t, tx] ty #[.slice A n0 c0, u]).run P w = .ok (.slice (some ⟨w.heap.size, 0, none⟩) (n0 + ys.length) cap) w' ∧ Chg (fun _ _ => False) w w' ∧
      Arr F w' { b := w.heap.size, o := 0, s := e.nc, len := n0 + ys.length, cap := cap, A := some ⟨w.heap.size, 0, none⟩ } e (xs ++ ys) := by
  have hbytes : (n0 + ys.length) * i.bytes ≤ 140737488355328 := (Nat.le_div_iff_mul_le hb).1 hroom
  have h47 : n0 + ys.length ≤ 140737488355328 := Nat.le_trans (Nat.le_mul_of_pos_right _ hb) hbytes
  have hrun := run_append_grow_src (P := P) w t tx ty te i z ht hi hz A n0 c0 olds (by rw [hsz]; exact hold) u ys.length news (by rw [hsz]; exact hs) hg (by omega) (growslice_fits hg hbytes)
  have hge := grownCap_ge w (n0 + ys.length) c0 te
  have hchg : Chg (fun _ _ => False) w (w.drew.alloc (.cells ((olds ++ news).toArray ++ Builtin.zeroCells z.cells (grownCap w (n0 + ys.length) c0 te - (n0 + ys.length))) te)) :=
    Chg.of_below (((Below.refl _ w).drew).alloc (Nat.le_refl _) _)
  have hsame : Same F w (w.drew.alloc (.cells ((olds ++ news).toArray ++ Builtin.zeroCells z.cells (grownCap w (n0 + ys.length) c0 te - (n0 + ys.length))) te)) := by
    intro b j hb v hv
    rw [hchg.cell b j (hF b hb) fun h => h]; exact hv
  have hall := (arr_append hx hy).mono (F' := F) (fun _ h => h) hsame
  have hcell : ∀ j v, (olds ++ news)[j]? = some v → (w.drew.alloc (.cells ((olds ++ news).toArray ++ Builtin.zeroCells z.cells (grownCap w (n0 + ys.length) c0 te - (n0 + ys.length))) te)).cell? ⟨w.heap.size, j, none⟩ = some v := by
    intro j v hj
    have e1 := World.cell?_alloc_new w.drew ((olds ++ news).toArray ++ Builtin.zeroCells z.cells (grownCap w (n0 + ys.length) c0 te - (n0 + ys.length))) te j
    rw [show w.drew.heap.size = w.heap.size from rfl] at e1
    rw [e1, Array.getElem?_append_left (by simpa using (List.getElem?_eq_some_iff.1 hj).1), List.getElem?_toArray]
    exact hj
  refine ⟨_, _, hrun, hchg, ?_⟩
  refine ⟨rfl, by simp [hn0], by simp [hn0]; exact hge, (by simp only [List.length_append, hn0]; show _ ≤ 9223372036854775807; omega), fun _ => rfl, fun _ => ?_, fun _ => (by rw [World.size_alloc]; exact Nat.lt_succ_self _), fun _ e => (by cases e), fun _ _ j hj => ?_⟩
  · exact arr_row hall fun j v hj => by simpa using hcell j v hj
  · have e1 := World.cell?_alloc_new w.drew ((olds ++ news).toArray ++ Builtin.zeroCells z.cells (grownCap w (n0 + ys.length) c0 te - (n0 + ys.length))) te j
    have e2 := World.frozen?_alloc_new w.drew ((olds ++ news).toArray ++ Builtin.zeroCells z.cells (grownCap w (n0 + ys.length) c0 te - (n0 + ys.length))) te j
    rw [show w.drew.heap.size = w.heap.size from rfl] at e1 e2
    simp only [Nat.zero_add]
    refine ⟨?_, e2⟩
    rw [e1, Array.getElem?_eq_getElem]
    · rfl
    · rw [Array.size_append]
      simp only [List.size_toArray, List.length_append, Builtin.zeroCells, Array.size_map, Array.size_range, hzs]
      rw [hx.len, hy.len]
      simp only [Ty.nc]
      have : n0 * e.nc + ys.length * e.nc + (grownCap w (n0 + ys.length) c0 te - (n0 + ys.length)) * e.nc = grownCap w (n0 + ys.length) c0 te * e.nc := by
        rw [← Nat.add_mul, ← Nat.add_mul]; congr 1; omega
      rw [this]; exact hj

theorem own_fresh {w : World} {nk : Nat} {B : Base} {r : Reg} (hb : ∀ b i, fp B r b i → w.heap.size ≤ b) : ∀ k b i, fp (upd β nk B k) (setAll rg [(nk, r)] k) b i → (∃ j, fp (β j) (rg j) b i) ∨ w.heap.size ≤ b := by
  intro k b i hf
  rw [setAll_one] at hf
  by_cases e : k = nk
  · subst e; rw [upd_same, upd_same] at hf; exact .inr (hb b i hf)
  · rw [upd_ne _ _ _ e, upd_ne _ _ _ e] at hf; exact .inl ⟨k, hf⟩

/-- The new region's kind. -/
def kindOf (own : Bool) (e : Ty) (xs : List e.car) : Reg := if own then .own e xs else .arr e xs
theorem kindOf_ok {own : Bool} {e : Ty} {xs : List e.car} {B : Base} {w : World} (h : Arr F w B e xs) (hb : own = true → B.bor = false) : RegOk F β w B (kindOf own e xs) := by
  cases own with
  | true => exact ⟨h, hb rfl⟩
  | false => exact h
theorem kindOf_fp {own : Bool} {e : Ty} {xs : List e.car} {B : Base} {b i : Nat} (h : fp B (kindOf own e xs) b i) : B.bor = false ∧ b = B.b ∧ B.o ≤ i ∧ i < B.o + B.cap * e.nc := by
  cases own <;> exact h
theorem kindOf_refs (own : Bool) (e : Ty) (xs : List e.car) : (kindOf own e xs).refs = [] := by cases own <;> rfl

/-- A slice that nobody writes is appended to. -/
theorem app_read {t tx ty te : TypeId} {i : TypeInfo} {z u : Value} {e : Ty} {A : Option Addr} {n0 : Nat} {xs ys : List e.car} {nk : Nat} {own : Bool} (hI : Inv F β al rg w) (hn : ¬ al nk)
    (ht : P.underlying t = some (.slice te)) (hi : P.info? te = some i) (hz : i.zero = some z) (hsz : i.size = e.nc) (hzs : z.cells.size = e.nc) (hn0 : xs.length = n0) (hmax : n0 ≤ maxI)
    (hx : xs = [] ∨ ∃ b o, A = some ⟨b, o, none⟩ ∧ F b ∧ RowAt w e.nc (RD F w e) xs b o) (hown : own = true → xs = [])
    (hs : ∃ news, Src P e.nc tx u ys.length news w ∧ RD F w (.arr ys.length e) ys news) (hb : 0 < i.bytes) (hroom : n0 + ys.length ≤ 140737488355328 / i.bytes) :
    ∃ v w' β', (Builtin.append_ #[t, tx] ty #[.slice A n0 n0, u]).run P w = .ok v w' ∧ Step F β al rg w (.arr nk) [(nk, kindOf own e (xs ++ ys))] F β' w' v := by
  obtain ⟨news, hs, hy⟩ := hs
  by_cases hm : ys.length = 0
  · obtain rfl := List.eq_nil_of_length_eq_zero hm
    have hnil : news = [] := List.eq_nil_of_length_eq_zero (by have := hy.len; simpa [Ty.nc] using this)
    subst hnil
    have hrun := run_append_nothing (P := P) w t tx ty te i ht hi A n0 n0 (Nat.le_refl _) u (by rw [hsz]; exact hs)
    obtain ⟨B, hB1, hB2⟩ : ∃ B : Base, Arr F w B e xs ∧ B.A = A ∧ B.len = n0 ∧ B.cap = n0 ∧ (xs = [] → B.bor = false) ∧ (xs ≠ [] → B.bor = true) := by
      rcases hx with rfl | ⟨b, o, rfl, hFb, hr⟩
      · simp at hn0; subst hn0
        exact ⟨{ b := 0, o := 0, s := e.nc, len := 0, cap := 0, A := A }, ⟨rfl, rfl, by simp, by simp, fun h => by simp at h, fun h => by simp at h, fun h => by simp at h, fun h => by simp at h, fun h => by simp at h⟩, rfl, rfl, rfl, fun _ => rfl, fun h => absurd rfl h⟩
      · by_cases hxe : xs = []
        · subst hxe
          simp at hn0; subst hn0
          exact ⟨{ b := 0, o := 0, s := e.nc, len := 0, cap := 0, A := some ⟨b, o, none⟩ }, ⟨rfl, rfl, by simp, by simp, fun h => by simp at h, fun h => by simp at h, fun h => by simp at h, fun h => by simp at h, fun h => by simp at h⟩, rfl, rfl, rfl, fun _ => rfl, fun h => absurd rfl h⟩
        · exact ⟨{ b := b, o := o, s := e.nc, len := n0, cap := n0, A := some ⟨b, o, none⟩, bor := true }, ⟨rfl, hn0.symm, by simp [hn0], by rw [hn0]; exact hmax, fun _ => rfl, fun _ => hr, fun _ => hI.ff b hFb, fun _ _ => ⟨hn0.symm, hFb⟩, fun _ h => by simp at h⟩, rfl, rfl, rfl, fun h => absurd h hxe, fun _ => rfl⟩
    obtain ⟨hA, hl, hc, hbor, hbor2⟩ := hB2
    have hfr : ∀ b i, fp B (kindOf own e (xs ++ [])) b i → w.heap.size ≤ b := fun b i h => by
      obtain ⟨h1, h2, h3, h4⟩ := kindOf_fp h
      by_cases hxe : xs = []
      · subst hxe; simp at hn0; subst hn0; rw [hc] at h4; simp at h4; omega
      · rw [hbor2 hxe] at h1; cases h1
    refine ⟨_, w, upd β nk B, by rw [hrun], ⟨fun _ h => h, fun _ h => .inl h, fun k hk => upd_ne _ _ _ fun e => hn (e ▸ hk), ?_, ?_, (Chg.refl _ w), fun k hk => ?_, own_fresh hfr⟩⟩
    · unfold VR; rw [upd_same, hA, hl, hc]
    · rw [setAll_one]
      rw [List.append_nil] at hfr ⊢
      exact (hI.fresh (Chg.refl _ w) hn (kindOf_ok hB1 fun h => hbor (hown h)) hfr (by rw [kindOf_refs]; simp)).al_ext fun k h => by simpa using h
    · simp [AV.refs] at hk; subst hk; simp
  · have hold : ∃ olds, (Builtin.firstCells e.nc n0 (.slice A n0 n0)).run P w.drew = .ok olds.toArray w.drew ∧ RD F w (.arr n0 e) xs olds := by
      rcases hx with rfl | ⟨b, o, rfl, _, hr⟩
      · simp at hn0; subst hn0
        refine ⟨[], ?_, rfl, [], rfl, rfl, fun i x c h => by simp at h⟩
        cases A with
        | none => exact run_firstCells_none w.drew _ _ _ _
        | some a => exact run_firstCells_some w.drew _ _ a _ _ [] (by simp) (fun j u h => by simp at h)
      · obtain ⟨cs, h1, h2⟩ := row_arr hr
        rw [hn0] at h1
        exact ⟨cs, run_firstCells_some w.drew _ _ _ _ _ cs (by rw [h1.len]; rfl) (fun j u hj => by rw [Addr.add_mid]; exact h2 j u hj), h1⟩
    obtain ⟨olds, hold, hxo⟩ := hold
    obtain ⟨cap, w', hrun, hchg, hA⟩ := app_grow (P := P) (F := F) (w := w) (ty := ty) ht hi hz hsz hzs hn0 hold hxo hs hy (by omega) hb hroom hI.ff
    have hfr : ∀ b i, fp { b := w.heap.size, o := 0, s := e.nc, len := n0 + ys.length, cap := cap, A := some ⟨w.heap.size, 0, none⟩ } (kindOf own e (xs ++ ys)) b i → w.heap.size ≤ b := fun b i h => by
      obtain ⟨_, h2, _⟩ := kindOf_fp h
      simp at h2; omega
    refine ⟨_, w', upd β nk { b := w.heap.size, o := 0, s := e.nc, len := n0 + ys.length, cap := cap, A := some ⟨w.heap.size, 0, none⟩ }, hrun, ⟨fun _ h => h, fun _ h => .inl h, fun k hk => upd_ne _ _ _ fun e => hn (e ▸ hk), ?_, ?_, hchg.mono fun _ _ _ h => h.elim, fun k hk => ?_, own_fresh hfr⟩⟩
    · unfold VR; rw [upd_same]
    · rw [setAll_one]
      refine (hI.fresh hchg hn (kindOf_ok hA fun _ => rfl) hfr (by rw [kindOf_refs]; simp)).al_ext fun k h => by simpa using h
    · simp [AV.refs] at hk; subst hk; simp

/-- A slice of the call's own is appended to. -/
theorem app_own {t tx ty te : TypeId} {i : TypeInfo} {z u : Value} {e : Ty} {xs ys : List e.car} {k nk : Nat} {own : Bool} (hI : Inv F β al rg w) (hn : ¬ al nk) (hrg : rg k = kindOf own e xs)
    (ht : P.underlying t = some (.slice te)) (hi : P.info? te = some i) (hz : i.zero = some z) (hsz : i.size = e.nc) (hzs : z.cells.size = e.nc)
    (hs : ∃ news, Src P e.nc tx u ys.length news w ∧ RD F w (.arr ys.length e) ys news) (hb : 0 < i.bytes) (hroom : xs.length + ys.length ≤ 140737488355328 / i.bytes) :
    ∃ v w' β', (Builtin.append_ #[t, tx] ty #[.slice (β k).A (β k).len (β k).cap, u]).run P w = .ok v w' ∧ Step F β al rg w (.arr nk) [(k, .dead), (nk, kindOf own e (xs ++ ys))] F β' w' v := by
  obtain ⟨news, hs, hy⟩ := hs
  have hok := hI.ok k
  rw [hrg] at hok
  have hA : Arr F w (β k) e xs := by cases own <;> first | exact hok | exact hok.1
  have hob : own = true → (β k).bor = false := fun e => by subst e; exact hok.2
  have hal : al k := hI.tk k (by rw [hrg]; cases own <;> simp [kindOf])
  have hne : k ≠ nk := fun e => hn (e ▸ hal)
  have hbytes : (xs.length + ys.length) * i.bytes ≤ 140737488355328 := (Nat.le_div_iff_mul_le hb).1 hroom
  have h47 : xs.length + ys.length ≤ 140737488355328 := Nat.le_trans (Nat.le_mul_of_pos_right _ hb) hbytes
  -- the end of every way
  have fin : ∀ (B : Base) (v : Value) (w' : World), (Builtin.append_ #[t, tx] ty #[.slice (β k).A (β k).len (β k).cap, u]).run P w = .ok v w' → Chg (fp (β k) (rg k)) w w' → Arr F w' B e (xs ++ ys) → (own = true → B.bor = false) →
      (∀ b i, fp B (kindOf own e (xs ++ ys)) b i → fp (β k) (rg k) b i ∨ w.heap.size ≤ b) → v = .slice B.A B.len B.cap →
      ∃ v w' β', (Builtin.append_ #[t, tx] ty #[.slice (β k).A (β k).len (β k).cap, u]).run P w = .ok v w' ∧ Step F β al rg w (.arr nk) [(k, .dead), (nk, kindOf own e (xs ++ ys))] F β' w' v := by
    intro B v w' hrun hchg hB hbo hfp hv
    refine ⟨v, w', upd β nk B, hrun, ⟨fun _ h => h, fun _ h => .inl h, fun j hj => upd_ne _ _ _ fun e => hn (e ▸ hj), ?_, ?_, hchg.mono fun b i _ h => ⟨k, by simp, h⟩, fun j hj => ?_, fun j b i hf => ?_⟩⟩
    · unfold VR; rw [upd_same]; exact hv
    · rw [setAll_two]
      refine (hI.move hchg hn hal (kindOf_ok hB hbo) hfp (by rw [kindOf_refs]; simp)).al_ext fun j h => ?_
      rcases h with h | h
      · exact .inl h
      · right; simp [h]
    · simp [AV.refs] at hj; subst hj; simp
    · rw [setAll_two] at hf
      by_cases e1 : j = nk
      · subst e1; rw [upd_same, upd_same] at hf; exact (hfp b i hf).imp (fun h => ⟨k, h⟩) id
      · rw [upd_ne _ _ _ e1, upd_ne _ _ _ e1] at hf
        by_cases e2 : j = k
        · subst e2; rw [upd_same] at hf; exact hf.elim
        · rw [upd_ne _ _ _ e2] at hf; exact .inl ⟨j, hf⟩
  by_cases hm : ys.length = 0
  · obtain rfl := List.eq_nil_of_length_eq_zero hm
    have hnil : news = [] := List.eq_nil_of_length_eq_zero (by have := hy.len; simpa [Ty.nc] using this)
    subst hnil
    have hrun := run_append_nothing (P := P) w t tx ty te i ht hi (β k).A (β k).len (β k).cap (by rw [hA.len]; exact hA.cap) u (by rw [hsz]; exact hs)
    refine fin (β k) _ w hrun (Chg.refl _ w) (by rw [List.append_nil]; exact hA) hob (fun b i h => .inl ?_) rfl
    rw [hrg]; cases own <;> exact h
  · by_cases hr : xs.length + ys.length ≤ (β k).cap
    · have hpos : 0 < (β k).cap := by omega
      have hbor : (β k).bor = false := by
        cases hq : (β k).bor with
        | false => rfl
        | true => have := (hA.bor hpos hq).1; omega
      have hnl := hy.len
      have hmul : xs.length * e.nc + ys.length * e.nc ≤ (β k).cap * e.nc := by rw [← Nat.add_mul]; exact Nat.mul_le_mul_right _ hr
      have hown : ∀ j, j < news.length → (w.cell? ⟨(β k).b, (β k).o + xs.length * e.nc + j, none⟩).isSome = true ∧ w.frozen? ⟨(β k).b, (β k).o + xs.length * e.nc + j, none⟩ = false := by
        intro j hj
        have := hA.own hpos hbor (xs.length * e.nc + j) (by rw [hnl] at hj; simp only [Ty.nc] at hj; omega)
        rwa [← Nat.add_assoc] at this
      have hrun := run_append_room_src (P := P) w t tx ty te i ht hi (β k).b (β k).o xs.length (β k).cap u ys.length news (by rw [hsz]; exact hs) hr (fun j hj => by rw [hsz]; exact (hown j hj).1) (fun j hj => by rw [hsz]; exact (hown j hj).2)
      rw [hsz, ← hA.adr hpos] at hrun
      have hchg := chg_setCells w (β k).b ((β k).o + xs.length * e.nc) news
      have hchg2 : Chg (fp (β k) (rg k)) w (w.setCells (β k).b ((β k).o + xs.length * e.nc) news) := hchg.mono fun b i _ h => by
        obtain ⟨rfl, h1, h2⟩ := h
        rw [hrg]
        have : (β k).bor = false ∧ (β k).b = (β k).b ∧ (β k).o ≤ i ∧ i < (β k).o + (β k).cap * e.nc := ⟨hbor, rfl, by omega, by rw [hnl] at h2; simp only [Ty.nc] at h2; omega⟩
        cases own <;> exact this
      have hsame := hI.same hchg2 fun b i h => ⟨k, h⟩
      obtain ⟨olds, ho1, ho2⟩ := row_arr (hA.row hpos)
      refine fin { β k with len := xs.length + ys.length } (.slice (β k).A (xs.length + ys.length) (β k).cap) _ (by rw [hA.len]; exact hrun) hchg2 ⟨hA.s, by simp, by simpa using hr, (by simp only [List.length_append]; show _ ≤ 9223372036854775807; omega), hA.adr, fun _ => ?_, fun h => Nat.lt_of_lt_of_le (hA.lt h) hchg.size, fun _ h => (by simp [hbor] at h), fun h _ j hj => ?_⟩ hob (fun b i h => .inl ?_) rfl
      · refine arr_row ((arr_append ho1 hy).mono (fun _ h => h) hsame) fun j v hj => ?_
        have hol := ho1.len
        simp only [Ty.nc] at hol
        by_cases hjl : j < olds.length
        · rw [List.getElem?_append_left hjl] at hj
          rw [World.cell?_setCells_out _ _ _ _ _ (fun _ _ => .inl (by show (β k).o + j < _; omega))]
          exact ho2 j v hj
        · rw [List.getElem?_append_right (by omega)] at hj
          have hlt := (List.getElem?_eq_some_iff.1 hj).1
          have := World.cell?_setCells_in (β k).b news ((β k).o + xs.length * e.nc) w (fun j hj => (hown j hj).1) _ hlt
          rw [show (β k).o + xs.length * e.nc + (j - olds.length) = (β k).o + j by omega] at this
          rw [List.getElem?_eq_getElem hlt] at hj
          exact this.trans hj
      · have := hA.own h hbor j hj
        exact ⟨setCells_there _ _ _ _ _ this.1, by rw [World.frozen?_setCells]; exact this.2⟩
      · rw [hrg]
        cases own <;> exact h
    · have hold : ∃ olds, (Builtin.firstCells e.nc xs.length (.slice (β k).A xs.length (β k).cap)).run P w.drew = .ok olds.toArray w.drew ∧ RD F w (.arr xs.length e) xs olds := by
        by_cases hxe : xs = []
        · subst hxe
          refine ⟨[], ?_, rfl, [], rfl, rfl, fun i x c h => by simp at h⟩
          cases (β k).A with
          | none => exact run_firstCells_none w.drew _ _ _ _
          | some a => exact run_firstCells_some w.drew _ _ a _ _ [] (by simp) (fun j u h => by simp at h)
        · have hpos : 0 < (β k).cap := by have := hA.cap; have : 0 < xs.length := List.length_pos_iff.2 hxe; omega
          obtain ⟨cs, h1, h2⟩ := row_arr (hA.row hpos)
          rw [hA.adr hpos]
          exact ⟨cs, run_firstCells_some w.drew _ _ _ _ _ cs (by rw [h1.len]; rfl) (fun j u hj => by rw [Addr.add_mid]; exact h2 j u hj), h1⟩
      obtain ⟨olds, hold, hxo⟩ := hold
      obtain ⟨cap, w', hrun, hchg, hB⟩ := app_grow (P := P) (F := F) (w := w) (ty := ty) ht hi hz hsz hzs rfl hold hxo hs hy (by omega) hb hroom hI.ff
      rw [← hA.len] at hrun
      refine fin _ _ w' hrun (hchg.mono fun _ _ _ h => h.elim) hB (fun _ => rfl) (fun b i h => .inr ?_) (by rw [hA.len])
      obtain ⟨_, h2, _⟩ := kindOf_fp h
      simp at h2; omega
end
end Go.Abs
