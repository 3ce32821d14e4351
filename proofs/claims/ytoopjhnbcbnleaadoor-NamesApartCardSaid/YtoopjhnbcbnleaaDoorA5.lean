/-
Operations, one by one: what the abstract machine says of each is what the machine does.
-/
import Derived.Test.YtoopjhnbcbnleaaDoorA4
import Derived.Laws.StructEq
import Derived.Laws.Small
namespace Go.Abs
open Go.RowKit
set_option linter.unusedVariables false
set_option linter.unusedSimpArgs false
set_option linter.unnecessarySimpa false

theorem VRs.one {F : Nat → Prop} {β : Nat → Base} {w : World} {as : List AV} {v : Value} (h : VRs F β w as [v]) : ∃ a, as = [a] ∧ VR F β w a v := by
  match as, h with
  | [], h => unfold VRs at h; cases h
  | a :: as, h =>
    unfold VRs at h
    obtain ⟨u, r, e, h1, h2⟩ := h
    injection e with e1 e2; subst e1; subst e2
    match as, h2 with
    | [], _ => exact ⟨a, rfl, h1⟩
    | _ :: _, h2 => unfold VRs at h2; obtain ⟨_, _, e, _⟩ := h2; cases e

theorem VRs.consL {F : Nat → Prop} {β : Nat → Base} {w : World} {as : List AV} {v : Value} {r : List Value} (h : VRs F β w as (v :: r)) : ∃ a bs, as = a :: bs ∧ VR F β w a v ∧ VRs F β w bs r := by
  match as, h with
  | [], h => unfold VRs at h; cases h
  | a :: as, h =>
    unfold VRs at h
    obtain ⟨u, r', e, h1, h2⟩ := h
    injection e with e1 e2; subst e1; subst e2
    exact ⟨a, as, rfl, h1, h2⟩

theorem VRs.nilL {F : Nat → Prop} {β : Nat → Base} {w : World} {as : List AV} (h : VRs F β w as []) : as = [] := by
  match as, h with
  | [], _ => rfl
  | _ :: _, h => unfold VRs at h; obtain ⟨_, _, e, _⟩ := h; cases e

theorem VRs.cons {F : Nat → Prop} {β : Nat → Base} {w : World} {a : AV} {as : List AV} {v : Value} {r : List Value} (h : VR F β w a v) (k : VRs F β w as r) : VRs F β w (a :: as) (v :: r) := by
  unfold VRs; exact ⟨v, r, rfl, h, k⟩
theorem VRs.nil {F : Nat → Prop} {β : Nat → Base} {w : World} : VRs F β w [] [] := by unfold VRs; rfl

theorem VRs.append {F : Nat → Prop} {β : Nat → Base} {w : World} : ∀ {as bs : List AV} {x y : List Value}, VRs F β w as x → VRs F β w bs y → VRs F β w (as ++ bs) (x ++ y)
  | [], bs, x, y, h, k => by unfold VRs at h; subst h; exact k
  | a :: as, bs, x, y, h, k => by
    unfold VRs at h
    obtain ⟨u, r, rfl, h1, h2⟩ := h
    exact VRs.cons h1 (VRs.append h2 k)

/-- An operation that yields a value at once. -/
theorem wp_val {P : Program} {o : Oper} {a : Act} {w w' : World} {next : Act → World → Prop} {Q : Exit → Act → World → Prop} {u : Value} (hr : (execOp a.eval o).run P w = .ok (.value u) w')
    (h : next (a.put o.dst u) w') : o.wp P a w next Q := by unfold Oper.wp; rw [hr]; exact h
theorem wp_skip' {P : Program} {o : Oper} {a : Act} {w w' : World} {next : Act → World → Prop} {Q : Exit → Act → World → Prop} (hr : (execOp a.eval o).run P w = .ok .skip w')
    (h : next (a.put o.dst undef) w') : o.wp P a w next Q := by unfold Oper.wp; rw [hr]; exact h

theorem dat_flat {F : Nat → Prop} {β : Nat → Base} {w : World} {t : Ty} (ht : t.isAgg = false) {x : t.car} {v : Value} (h : VR F β w (.dat t x) v) : RD F w t x [v] := by
  unfold VR at h; rwa [if_neg (by simp [ht])] at h
theorem mk_flat {F : Nat → Prop} {β : Nat → Base} {w : World} {t : Ty} (ht : t.isAgg = false) {x : t.car} {v : Value} (h : RD F w t x [v]) : VR F β w (.dat t x) v := by
  unfold VR; rwa [if_neg (by simp [ht])]
theorem int_val {F : Nat → Prop} {β : Nat → Base} {w : World} {k : IntKind} {x : Int} {v : Value} (h : VR F β w (.dat (.int k) x) v) : v = .int k x ∧ k.wrap x = x := by
  obtain ⟨h1, h2⟩ := dat_flat (t := .int k) rfl h
  exact ⟨by simpa using h1, h2⟩
theorem bool_val {F : Nat → Prop} {β : Nat → Base} {w : World} {x : Bool} {v : Value} (h : VR F β w (.dat .bool x) v) : v = .bool x := by
  have h1 : [v] = [Value.bool x] := dat_flat (t := .bool) rfl h
  simpa using h1
theorem str_val {F : Nat → Prop} {β : Nat → Base} {w : World} {x : ByteArray} {v : Value} (h : VR F β w (.dat .str x) v) : v = .string x ∧ x.size ≤ maxI := by
  obtain ⟨h1, h2⟩ := dat_flat (t := .str) rfl h
  exact ⟨by simpa using h1, h2⟩
theorem mk_int {F : Nat → Prop} {β : Nat → Base} {w : World} {k : IntKind} {x : Int} (h : k.wrap x = x) : VR F β w (.dat (.int k) x) (.int k x) := mk_flat (t := .int k) rfl ⟨rfl, h⟩
theorem mk_bool {F : Nat → Prop} {β : Nat → Base} {w : World} (x : Bool) : VR F β w (.dat .bool x) (.bool x) := mk_flat (t := .bool) rfl (show [_] = [_] from rfl)
theorem mk_str {F : Nat → Prop} {β : Nat → Base} {w : World} {x : ByteArray} (h : x.size ≤ maxI) : VR F β w (.dat .str x) (.string x) := mk_flat (t := .str) rfl ⟨rfl, h⟩

theorem wrap_wrap (k : IntKind) (x : Int) : k.wrap (k.wrap x) = k.wrap x := by
  cases k <;> simp [IntKind.wrap, IntKind.bits, IntKind.signed] <;> omega
theorem wrap_iff (k : IntKind) (x : Int) : k.wrap x = x ↔ k.min ≤ x ∧ x ≤ k.max := by
  cases k <;> simp [IntKind.wrap, IntKind.bits, IntKind.signed, IntKind.min, IntKind.max] <;> (constructor <;> intro h <;> (try constructor) <;> omega)
theorem min_le_zero (k : IntKind) : k.min ≤ 0 := by cases k <;> decide
theorem zero_le_max (k : IntKind) : 0 ≤ k.max := by cases k <;> decide
theorem wrap_between {k : IntKind} {x y : Int} (h : k.wrap x = x) (hy : (0 ≤ y ∧ y ≤ x) ∨ (x ≤ y ∧ y ≤ 0)) : k.wrap y = y := by
  rw [wrap_iff] at h ⊢
  have := min_le_zero k; have := zero_le_max k
  omega
theorem wrap_tmod {k : IntKind} {x : Int} (y : Int) (h : k.wrap x = x) : k.wrap (Int.tmod x y) = Int.tmod x y := by
  refine wrap_between h ?_
  rcases Int.le_total 0 x with h0 | h0
  · left
    refine ⟨Int.tmod_nonneg y h0, ?_⟩
    have := Int.natAbs_tmod x y
    have h1 := Int.tmod_nonneg y h0
    have h2 := Nat.mod_le x.natAbs y.natAbs
    omega
  · right
    have e : Int.tmod x y = - Int.tmod (-x) y := by rw [Int.neg_tmod]; omega
    have h1 := Int.tmod_nonneg y (show 0 ≤ -x by omega)
    have := Int.natAbs_tmod (-x) y
    have h2 := Nat.mod_le (-x).natAbs y.natAbs
    omega
theorem wrap_fdiv {k : IntKind} {x : Int} (n : Nat) (h : k.wrap x = x) : k.wrap (Int.fdiv x (2 ^ n)) = Int.fdiv x (2 ^ n) := by
  refine wrap_between h ?_
  have hp : (0 : Int) < 2 ^ n := Int.pow_pos (by omega)
  rw [Int.fdiv_eq_ediv_of_nonneg x (Int.le_of_lt hp)]
  rcases Int.le_total 0 x with h0 | h0
  · left
    exact ⟨Int.ediv_nonneg h0 (Int.le_of_lt hp), Int.ediv_le_self _ h0⟩
  · right
    refine ⟨?_, ?_⟩
    · refine Int.le_ediv_of_mul_le hp ?_
      have : x * 2 ^ n ≤ x * 1 := Int.mul_le_mul_of_nonpos_left h0 (by omega)
      omega
    · rcases Int.lt_or_eq_of_le h0 with h1 | h1
      · exact Int.le_of_lt (Int.ediv_neg_of_neg_of_pos h1 hp)
      · rw [h1]; simp

/-- A slice that is data. -/
theorem list_val {F : Nat → Prop} {β : Nat → Base} {w : World} {e : Ty} {xs : List e.car} {v : Value} (h : VR F β w (.dat (.list e) xs) v ∨ VR F β w (.full e xs) v) :
    ∃ A c, v = .slice A xs.length c ∧ xs.length ≤ c ∧ xs.length ≤ maxI ∧ (xs = [] ∨ ∃ b o, A = some ⟨b, o, none⟩ ∧ F b ∧ RowAt w e.nc (RD F w e) xs b o) := by
  rcases h with h | h
  · obtain ⟨A, c, h1, h2, h3, h4⟩ := dat_flat (t := .list e) rfl h
    exact ⟨A, c, by simpa using h1, h2, h3, h4⟩
  · unfold VR at h
    obtain ⟨_, _, A, c, h1, h2, h3, h4⟩ := h
    exact ⟨A, c, by simpa using h1, h2, h3, h4⟩
theorem mk_list {F : Nat → Prop} {β : Nat → Base} {w : World} {e : Ty} {xs : List e.car} {A : Option Addr} {c : Nat} (h1 : xs.length ≤ c) (h2 : xs.length ≤ maxI)
    (h3 : xs = [] ∨ ∃ b o, A = some ⟨b, o, none⟩ ∧ F b ∧ RowAt w e.nc (RD F w e) xs b o) : VR F β w (.dat (.list e) xs) (.slice A xs.length c) :=
  mk_flat (t := .list e) rfl ⟨A, c, rfl, h1, h2, h3⟩

section
variable {P : Program} {F : Nat → Prop} {β : Nat → Base} {al : Nat → Prop} {rg rgK : Nat → Reg} {w : World}

theorem tyIs_int {t : TypeId} {k : IntKind} (h : tyIs P t = some (.int k)) : P.underlying t = some (.int k) := by
  unfold tyIs tyDepth at h
  unfold tyOf at h
  split at h
  · rename_i u hu
    split at h
    · obtain rfl := Option.some.inj h
      split at hu <;> simp_all
    · cases h
  · cases h
theorem tyIs_str {t : TypeId} (h : tyIs P t = some .str) : P.underlying t = some .string := by
  unfold tyIs tyDepth at h
  unfold tyOf at h
  split at h
  · rename_i u hu
    split at h
    · obtain rfl := Option.some.inj h
      split at hu <;> simp_all
    · cases h
  · cases h
theorem elemOf_spec {t e : TypeId} (h : elemOf P t = some e) : P.underlying t = some (.slice e) := by
  unfold elemOf at h
  split at h
  · obtain rfl := Option.some.inj h; assumption
  · cases h

theorem info_cells {t : TypeId} (h : P.cellsOf t ≠ 0) : ∃ i, P.info? t = some i ∧ i.size = P.cellsOf t := by
  unfold Program.cellsOf at *
  cases hq : P.info? t with
  | none => simp [hq] at h
  | some i => exact ⟨i, rfl, by simp⟩

theorem run_sizeOf' {t : TypeId} {i : TypeInfo} (h : P.info? t = some i) (w : World) : (sizeOf t).run P w = .ok (P.cellsOf t) w := by
  simp [sizeOf, typeInfo, h, Program.cellsOf]

/-- A field's address. -/
theorem run_fieldAt {s : TypeId} {fs : Array Field} {f : Nat} {fd : Field} {b o : Nat} (hu : P.underlying s = some (.struct fs)) (hf : fs[f]? = some fd) (hz : P.cellsOf fd.type ≠ 0) (w : World) :
    (Instr.fieldAt s (.pointer (some ⟨b, o, none⟩)) f).run P w = .ok (.pointer (some ⟨b, o + fd.offset, none⟩)) w := by
  obtain ⟨i, hi, hs⟩ := info_cells hz
  simp [Instr.fieldAt, run_underlying hu, hf, Instr.sureAddr, fieldPlace, run_sizeOf' hi, hz, Addr.add_mid]

/-- The value of flat data. -/
def valOf : AV → Value
  | .dat (.int k) z => .int k z
  | .dat .bool b => .bool b
  | .dat .str s => .string s
  | _ => undef

theorem evInt2_sound {op : BinOp} {k : IntKind} {a b : Int} {out : Out} (h : evInt2 op k a b = some out) (hob : ∀ p ∈ out.ob, p) (ha : k.wrap a = a) (hb : k.wrap b = b) (h1 : op ≠ .shl) (h2 : op ≠ .shr) (t : TypeId) :
    out.wr = [] ∧ out.v.refs = [] ∧ (binOp op t (.int k a) (.int k b)).run P w = .ok (valOf out.v) w ∧ VR F β w out.v (valOf out.v) := by
  have key : ∀ v ob, out = { v := v, ob := ob } → v.refs = [] → (binOp op t (.int k a) (.int k b)).run P w = .ok (valOf v) w → VR F β w v (valOf v) →
      out.wr = [] ∧ out.v.refs = [] ∧ (binOp op t (.int k a) (.int k b)).run P w = .ok (valOf out.v) w ∧ VR F β w out.v (valOf out.v) := by
    rintro v ob rfl a b c; exact ⟨rfl, a, b, c⟩
  unfold evInt2 at h
  cases op <;> simp only [reduceCtorEq] at h <;> first | (exact absurd rfl h1) | (exact absurd rfl h2) | skip
  all_goals have h := (Option.some.inj h).symm
  all_goals refine key _ _ h rfl ?_ ?_
  all_goals first | exact mk_bool _ | exact mk_int (wrap_wrap _ _) | exact mk_int (wrap_tmod _ ha) | skip
  case quo => 
    have h0 : b ≠ 0 := hob _ (by rw [h]; simp)
    simp [binOp, Op.intDiv, h0, valOf]
  case rem => 
    have h0 : b ≠ 0 := hob _ (by rw [h]; simp)
    simp [binOp, Op.intDiv, h0, valOf]
  all_goals simp [binOp, Op.intArith, Op.intCmp, Op.intBits, valOf]

theorem evBin_sound {op : BinOp} {x y : AV} {u v : Value} {out : Out} (h : evBin op x y = some out) (hob : ∀ p ∈ out.ob, p) (hx : VR F β w x u) (hy : VR F β w y v) (t : TypeId) (X Y : Operand) :
    out.wr = [] ∧ out.v.refs = [] ∧ ∃ r, (do eqGuard op t X Y u v; binOp op t u v : Sem Value).run P w = .ok r w ∧ VR F β w out.v r := by
  unfold evBin at h
  split at h
  · rename_i k a k' b
    obtain ⟨rfl, ha⟩ := int_val hx
    obtain ⟨rfl, hb⟩ := int_val hy
    have hg : ∀ op, (eqGuard op t X Y (.int k a) (.int k' b)).run P w = .ok () w := by intro op; cases op <;> simp [eqGuard]
    split at h
    · obtain rfl := Option.some.inj h
      have h0 : ¬ (b : Int) < 0 := Int.not_lt.2 (hob (0 ≤ (b : Int)) (by simp))
      refine ⟨rfl, rfl, _, ?_, mk_int (wrap_wrap _ _)⟩
      simp [hg, binOp, Op.shift, h0]
    · obtain rfl := Option.some.inj h
      have h0 : ¬ (b : Int) < 0 := Int.not_lt.2 (hob (0 ≤ (b : Int)) (by simp))
      refine ⟨rfl, rfl, .int k (Int.fdiv (a : Int) (2 ^ min (b : Int).toNat k.bits)), ?_, mk_int (wrap_fdiv _ ha)⟩
      simp [hg, binOp, Op.shift, h0]
    · rename_i h1 h2
      split at h
      · rename_i hk; subst hk
        obtain ⟨a1, a2, a3, a4⟩ := evInt2_sound (P := P) (F := F) (β := β) (w := w) h hob ha hb (fun e => h1 e) (fun e => h2 e) t
        exact ⟨a1, a2, _, by simp [hg, a3], a4⟩
      · cases h
  · rename_i a b
    obtain ⟨rfl, ha⟩ := str_val hx
    obtain ⟨rfl, hb⟩ := str_val hy
    have hg : ∀ op, (eqGuard op t X Y (.string a) (.string b)).run P w = .ok () w := by intro op; cases op <;> simp [eqGuard]
    split at h
    · obtain rfl := Option.some.inj h
      have h0 : ((a : ByteArray).size + (b : ByteArray).size ≤ 9223372036854775807) := hob _ (List.mem_singleton.2 rfl)
      refine ⟨rfl, rfl, .string ((a : ByteArray) ++ b), ?_, mk_str ?_⟩
      · have h1 : ¬ (((a : ByteArray).size + (b : ByteArray).size : Nat) : Int) > IntKind.i64.max := by simp [IntKind.max, IntKind.signed, IntKind.bits]; omega
        simp only [Sem.run_bind, hg, Result.andThen_ok, binOp, Op.stringOp, if_neg h1]; rfl
      · rw [ByteArray.size_append]; exact h0
    all_goals first | (cases h; done) | skip
    all_goals obtain rfl := Option.some.inj h
    all_goals refine ⟨rfl, rfl, _, ?_, mk_bool _⟩
    all_goals simp only [Sem.run_bind, hg, Result.andThen_ok, binOp, Op.stringOp]; rfl
  · cases h

/-- A value of data, of its cells. -/
def IsOf (u : Ty) (c : List Value) (v : Value) : Prop := (u.isAgg = true → v = .agg c.toArray) ∧ (u.isAgg = false → c = [v])

theorem part_run {t : TypeId} {u : Ty} {d : TypeDesc} {pre c post : List Value} (h1 : u.nc = P.cellsOf t) (h2 : u.isAgg = aggT P t) (h3 : u.isAgg = true ∨ u.nc = 1) (hd : P.underlying t = some d) (hl : c.length = u.nc) (w : World) :
    ∃ v, (part t (pre ++ c ++ post).toArray pre.length).run P w = .ok v w ∧ IsOf u c v := by
  obtain ⟨i, hi⟩ := info_of hd
  unfold part
  rw [Sem.run_bind, run_isAgg hd w, ← h2]
  cases ha : u.isAgg with
  | true =>
    refine ⟨.agg c.toArray, ?_, ⟨fun _ => rfl, fun e => (by rw [ha] at e; cases e)⟩⟩
    simp only [Result.andThen_ok, if_true, Sem.run_bind, run_sizeOf' hi, Sem.run_pure]
    congr 2
    apply Array.ext'
    simp only [List.extract_toArray, List.extract_eq_take_drop]
    rw [List.append_assoc, List.drop_left, ← h1, ← hl, Nat.add_sub_cancel_left, List.take_left]
  | false =>
    rw [ha] at h3
    have : c.length = 1 := by rw [hl]; simpa using h3
    match c, this with
    | [v], _ =>
      refine ⟨v, ?_, ⟨fun e => (by rw [ha] at e; cases e), fun _ => rfl⟩⟩
      simp

theorem eqFs_sound {ok : TypeId → Ty → Bool} {dp : Nat}
    (hok : ∀ t u, ok t u = true → (∃ d, P.underlying t = some d) ∧ ∀ (x y : u.car) (c d : List Value) (vx vy : Value), RD F w u x c → RD F w u y d → IsOf u c vx → IsOf u d vy → (Op.equalIn dp t vx vy).run P w = .ok (u.eqD x y) w) :
    ∀ (fs : List Field) (a : Ty) (o : Nat) (x y : a.car) (px py c d qx qy : List Value), eqFs P ok fs a o = true → px.length = o → py.length = o → RD F w a x c → RD F w a y d →
      (Op.eqFields dp (px ++ c ++ qx).toArray (py ++ d ++ qy).toArray fs).run P w = .ok (a.eqD x y) w := by
  have one : ∀ (f : Field) (a : Ty) (x y : a.car) (px py c d qx qy : List Value), f.name ≠ "_" → f.offset = px.length → py.length = px.length → ok f.type a = true → a.nc = P.cellsOf f.type → a.isAgg = aggT P f.type → (a.isAgg = true ∨ a.nc = 1) →
      RD F w a x c → RD F w a y d → ∀ fs, (Op.eqFields dp (px ++ c ++ qx).toArray (py ++ d ++ qy).toArray (f :: fs)).run P w =
        if a.eqD x y = true then (Op.eqFields dp (px ++ c ++ qx).toArray (py ++ d ++ qy).toArray fs).run P w else .ok false w := by
    intro f a x y px py c d qx qy hn ho hl h1 h2 h3 h4 hx hy fs
    obtain ⟨⟨dd, hd⟩, he⟩ := hok _ _ h1
    obtain ⟨vx, rx, ix⟩ := part_run (P := P) (pre := px) (c := c) (post := qx) h2 h3 h4 hd hx.len w
    obtain ⟨vy, ry, iy⟩ := part_run (P := P) (pre := py) (c := d) (post := qy) h2 h3 h4 hd hy.len w
    rw [← ho] at rx; rw [hl, ← ho] at ry
    rw [Op.eqFields, if_pos hn]
    simp only [Sem.run_bind, rx, ry, Result.andThen_ok, he x y c d vx vy hx hy ix iy]
    cases a.eqD x y <;> simp
  intro fs
  induction fs with
  | nil =>
    intro a o x y px py c d qx qy h hpx hpy hx hy
    cases a <;> simp [eqFs] at h
    simp [Op.eqFields, Ty.eqD]
  | cons f fs ih =>
    intro a o x y px py c d qx qy h hpx hpy hx hy
    cases fs with
    | nil =>
      simp only [eqFs, Bool.and_eq_true, bne_iff_ne, ne_eq, beq_iff_eq, Bool.or_eq_true] at h
      obtain ⟨⟨⟨⟨⟨h1, h2⟩, h3⟩, h4⟩, h5⟩, h6⟩ := h
      rw [one f a x y px py c d qx qy h1 (by omega) (by omega) h3 h4 h5 h6 hx hy []]
      simp only [Op.eqFields]
      cases a.eqD x y <;> simp
    | cons g fs =>
      cases a with
      | pair a b =>
        simp only [eqFs, Bool.and_eq_true, bne_iff_ne, ne_eq, beq_iff_eq, Bool.or_eq_true] at h
        obtain ⟨⟨⟨⟨⟨⟨h1, h2⟩, h3⟩, h4⟩, h5⟩, h6⟩, h7⟩ := h
        obtain ⟨c1, c2, rfl, hx1, hx2⟩ := hx
        obtain ⟨d1, d2, rfl, hy1, hy2⟩ := hy
        have := one f a x.1 y.1 px py c1 d1 (c2 ++ qx) (d2 ++ qy) h1 (by omega) (by omega) h3 h4 h5 h6 hx1 hy1 (g :: fs)
        have e1 : px ++ (c1 ++ c2) ++ qx = px ++ c1 ++ (c2 ++ qx) := by simp
        have e2 : py ++ (d1 ++ d2) ++ qy = py ++ d1 ++ (d2 ++ qy) := by simp
        rw [e1, e2, this]
        have := ih b (o + a.nc) x.2 y.2 (px ++ c1) (py ++ d1) c2 d2 qx qy h7 (by rw [List.length_append, hx1.len]; omega) (by rw [List.length_append, hy1.len]; omega) hx2 hy2
        have e3 : px ++ c1 ++ (c2 ++ qx) = px ++ c1 ++ c2 ++ qx := by simp
        have e4 : py ++ d1 ++ (d2 ++ qy) = py ++ d1 ++ d2 ++ qy := by simp
        rw [e3, e4, this]
        simp only [Ty.eqD]
        cases a.eqD x.1 y.1 <;> simp
      | _ => simp [eqFs] at h

theorem eqOk_sound : ∀ (n : Nat) (m : Nat) (t : TypeId) (u : Ty), eqOk P n t u = true → (∃ d, P.underlying t = some d) ∧ ∀ (x y : u.car) (c d : List Value) (vx vy : Value), RD F w u x c → RD F w u y d → IsOf u c vx → IsOf u d vy →
    (Op.equalIn (n + m) t vx vy).run P w = .ok (u.eqD x y) w
  | 0, m, t, u, h => by simp [eqOk] at h
  | n + 1, m, t, u, h => by
    unfold eqOk at h
    rw [show n + 1 + m = (n + m) + 1 by omega]
    split at h
    · rename_i k k' hu
      refine ⟨⟨_, hu⟩, fun x y c d vx vy hx hy ix iy => ?_⟩
      obtain ⟨rfl, _⟩ := hx
      obtain ⟨rfl, _⟩ := hy
      have e1 := ix.2 rfl; have e2 := iy.2 rfl
      simp only [List.cons.injEq, and_true] at e1 e2
      subst e1; subst e2
      exact run_equalIn_int w _ t k' k x y hu
    · rename_i hu
      refine ⟨⟨_, hu⟩, fun x y c d vx vy hx hy ix iy => ?_⟩
      have hx' : c = [.bool x] := hx
      have hy' : d = [.bool y] := hy
      subst hx'; subst hy'
      have e1 := ix.2 rfl; have e2 := iy.2 rfl
      simp only [List.cons.injEq, and_true] at e1 e2
      subst e1; subst e2
      exact run_equalIn_bool' w _ t x y hu
    · rename_i hu
      refine ⟨⟨_, hu⟩, fun x y c d vx vy hx hy ix iy => ?_⟩
      obtain ⟨rfl, _⟩ := hx
      obtain ⟨rfl, _⟩ := hy
      have e1 := ix.2 rfl; have e2 := iy.2 rfl
      simp only [List.cons.injEq, and_true] at e1 e2
      subst e1; subst e2
      rw [run_equalIn_string w _ t x y hu]
      exact congrArg (fun b => Result.ok b w) (beq_toListBytes x y).symm
    · rename_i fs a hu
      simp only [Bool.and_eq_true, Bool.not_eq_true'] at h
      refine ⟨⟨_, hu⟩, fun x y c d vx vy hx hy ix iy => ?_⟩
      obtain rfl := ix.1 rfl
      obtain rfl := iy.1 rfl
      have hf : P.fieldsOf t = fs := by simp [Program.fieldsOf, hu]
      rw [run_equalIn_struct w (n + m) t _ _ (by rw [hf]; exact hu) h.1, hf]
      have := eqFs_sound (P := P) (F := F) (w := w) (dp := n + m) (fun t u hh => eqOk_sound n m t u hh) fs.toList a 0 x y [] [] c d [] [] h.2 rfl rfl hx hy
      simp only [List.nil_append, List.append_nil] at this
      exact this
    · cases h

theorem VR.aggCells {z : AV} {v : Value} (hv : VR F β w z v) (hz : z.isAggV = true) : v = .agg v.cells.toList.toArray := by
  cases z with
  | dat t x => have hz' : t.isAgg = true := hz; unfold VR at hv; rw [if_pos hz'] at hv; obtain ⟨cs, rfl, _⟩ := hv; simp [Value.cells]
  | agg cs => unfold VR at hv; obtain ⟨us, rfl, _⟩ := hv; simp [Value.cells]
  | _ => simp [AV.isAggV] at hz

theorem VR.flatCells {z : AV} {v : Value} (hv : VR F β w z v) (hs : z.solid = true) (hz : z.isAggV = false) : v.cells.toList = [v] := by
  have one : v.oneCell' = true → v.cells.toList = [v] := fun h => by cases v <;> simp_all [Value.cells, Value.oneCell']
  cases z with
  | dat t x => exact one ((dat_flat hz hv).one v (by simp))
  | agg cs => simp [AV.isAggV] at hz
  | tup vs => simp [AV.solid] at hs
  | bad => simp [AV.solid] at hs
  | full t xs => unfold VR at hv; obtain ⟨A, rfl, _⟩ := hv; rfl
  | ref k o => unfold VR at hv; subst hv; rfl
  | elt t xs i o => unfold VR at hv; obtain ⟨b, c, rfl, _⟩ := hv; rfl
  | arr k => unfold VR at hv; subst hv; rfl
  | aelt k i o => unfold VR at hv; obtain ⟨rfl, _⟩ := hv; rfl
  | fn f a b => unfold VR at hv; obtain ⟨x, y, rfl, _⟩ := hv; rfl
  | iface t a => unfold VR at hv; obtain ⟨u, rfl, _⟩ := hv; rfl
  | cst u => unfold VR at hv; exact one (hv.1 ▸ hv.2)
  | nul => unfold VR at hv; obtain ⟨A, rfl⟩ := hv; rfl
  | yld k => unfold VR at hv; subst hv; rfl

theorem evEq_sound {t : TypeId} {neg : Bool} {x y : AV} {u v : Value} {out : Out} (h : evEq P t neg x y = some out) (hx : VR F β w x u) (hy : VR F β w y v) (op : BinOp) (hop : op = if neg then .neq else .eql) (X Y : Operand) :
    out.wr = [] ∧ out.v.refs = [] ∧ ∃ r, (do eqGuard op t X Y u v; binOp op t u v : Sem Value).run P w = .ok r w ∧ VR F β w out.v r := by
  unfold evEq at h
  split at h
  · rename_i q hq
    split at h
    · rename_i hh
      obtain ⟨h1, h2, h3, h4, h5, h6⟩ := hh
      split at h
      · rename_i a b ha hb
        obtain rfl := Option.some.inj h
        have ra := AV.get_sound ha h3 hx
        have rb := AV.get_sound hb h4 hy
        have isof : ∀ {z : AV} {v : Value}, z.solid = true → z.isAggV = q.isAgg → VR F β w z v → IsOf q v.cells.toList v := fun hs hz hv =>
          ⟨fun e => hv.aggCells (by rw [hz, e]), fun e => hv.flatCells hs (by rw [hz, e])⟩
        obtain ⟨⟨d, hd⟩, he⟩ := eqOk_sound (P := P) (F := F) (w := w) 20 9980 t q h1
        have he' := he a b _ _ u v ra rb (isof h3 h5 hx) (isof h4 h6 hy)
        refine ⟨rfl, rfl, .bool (if neg then !(q.eqD a b) else q.eqD a b), ?_, mk_bool _⟩
        have heq : (Op.equal t u v).run P w = .ok (q.eqD a b) w := he'
        have i1 := isof h3 h5 hx; have i2 := isof h4 h6 hy
        clear he he'
        cases q with
        | int k =>
          have e1 := i1.2 rfl; have e2 := i2.2 rfl
          rw [e1] at ra; rw [e2] at rb
          obtain ⟨f1, _⟩ := ra; obtain ⟨f2, _⟩ := rb
          simp only [List.cons.injEq, and_true] at f1 f2; subst f1; subst f2
          subst hop
          cases neg
          · simp [eqGuard, binOp, Op.intCmp, Ty.eqD]
          · simp [eqGuard, binOp, Op.intCmp, Ty.eqD, bne]
        | str =>
          have e1 := i1.2 rfl; have e2 := i2.2 rfl
          rw [e1] at ra; rw [e2] at rb
          obtain ⟨f1, _⟩ := ra; obtain ⟨f2, _⟩ := rb
          simp only [List.cons.injEq, and_true] at f1 f2; subst f1; subst f2
          subst hop
          have := beq_toListBytes a b
          cases neg
          · simp [eqGuard, binOp, Op.stringOp, Ty.eqD, this]
          · simp [eqGuard, binOp, Op.stringOp, Ty.eqD, this]
        | bool =>
          have e1 := i1.2 rfl; have e2 := i2.2 rfl
          rw [e1] at ra; rw [e2] at rb
          have f1 : [u] = [Value.bool a] := ra
          have f2 : [v] = [Value.bool b] := rb
          simp only [List.cons.injEq, and_true] at f1 f2; subst f1; subst f2
          subst hop
          cases neg
          · simp [eqGuard, binOp, heq]
          · simp [eqGuard, binOp, heq]
        | st z =>
          have e1 := i1.1 rfl; have e2 := i2.1 rfl
          rw [e1, e2] at heq ⊢
          subst hop
          cases neg
          · simp [eqGuard, binOp, heq, h2]
          · simp [eqGuard, binOp, heq, h2]
        | _ => unfold eqOk at h1; split at h1 <;> simp_all
      · cases h
    · cases h
  · cases h

end
end Go.Abs
