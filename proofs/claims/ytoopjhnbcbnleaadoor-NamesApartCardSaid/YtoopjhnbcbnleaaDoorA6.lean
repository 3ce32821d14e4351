/-
Slices cut, indexed, appended to; structs and literals built.
-/
import Derived.Test.YtoopjhnbcbnleaaDoorA5
namespace Go.Abs
open Go.RowKit
set_option linter.unusedVariables false
set_option linter.unusedSimpArgs false
set_option linter.unnecessarySimpa false

def OVR (F : Nat → Prop) (β : Nat → Base) (w : World) : Option AV → Option Value → Prop
  | none, none => True
  | some a, some v => VR F β w a v
  | _, _ => False

section
variable {P : Program} {F : Nat → Prop} {β : Nat → Base} {al : Nat → Prop} {rg rgK : Nat → Reg} {w : World}

theorem OVR.num {d l : Int} {x : Option AV} {v : Option Value} (h : OVR F β w x v) (hn : numOf d x = some l) : (x = none ∧ v = none ∧ l = d) ∨ ((∃ k, v = some (.int k l)) ∧ x ≠ none) := by
  unfold numOf at hn
  split at hn
  · left
    cases v with
    | none => exact ⟨rfl, rfl, (Option.some.inj hn).symm⟩
    | some v => simp [OVR] at h
  · right
    obtain rfl := Option.some.inj hn
    cases v with
    | none => simp [OVR] at h
    | some v =>
      rename_i k n
      have h' : VR F β w (.dat (.int k) _) v := h
      exact ⟨⟨k, by rw [(int_val h').1]⟩, by simp⟩
  · cases hn

theorem run_bound {k : IntKind} {n : Int} {y : Nat} {c : BoundsCode} (h0 : 0 ≤ n) (h1 : n ≤ y) (w : World) : (Instr.sliceBound (.int k n) y c).run P w = .ok n.toNat w := by
  simp [Instr.sliceBound, asIntOf, h0, h1]

theorem row_cut {α : Type} {R : α → List Value → Prop} {s b o l h : Nat} {xs : List α} (hr : RowAt w s R xs b o) : RowAt w s R ((xs.take h).drop l) b (o + l * s) := by
  intro i x hi
  rw [List.getElem?_drop] at hi
  have hi' : xs[l + i]? = some x := by
    rw [List.getElem?_take] at hi
    split at hi
    · exact hi
    · cases hi
  obtain ⟨vs, h1, h2⟩ := hr (l + i) x hi'
  refine ⟨vs, h1, fun j v hj => ?_⟩
  have := h2 j v hj
  rw [Nat.add_mul] at this
  rwa [show o + l * s + i * s + j = o + (l * s + i * s) + j by omega]

theorem run_bounds {isS : Bool} {len cap m : Nat} {l h : Int} {lv hv mv : Option Value} (hL : (lv = none ∧ l = 0) ∨ (∃ k, lv = some (.int k l))) (hH : (hv = none ∧ h = len) ∨ (∃ k, hv = some (.int k h)))
    (hM : (mv = none ∧ m = cap) ∨ (mv = some (.int .i64 (m : Int)) ∧ hv ≠ none)) (h0 : 0 ≤ l) (h1 : l ≤ h) (h2 : h ≤ m) (h3 : m ≤ cap) (w : World) :
    (Instr.sliceBounds isS len cap lv hv mv).run P w = .ok (l.toNat, h.toNat, m) w := by
  have b1 : ∀ k c, (Instr.sliceBound (.int k l) h.toNat c).run P w = .ok l.toNat w := fun k c => run_bound h0 (by omega) w
  have b2 : ∀ k c, (Instr.sliceBound (.int k h) m c).run P w = .ok h.toNat w := fun k c => run_bound (by omega) h2 w
  have b3 : ∀ c, (Instr.sliceBound (.int .i64 (m : Int)) cap c).run P w = .ok m w := fun c => by rw [run_bound (by omega) (by omega) w]; rfl
  have b1' : ∀ (k : IntKind) c, (Instr.sliceBound (.int k l) len c).run P w = .ok l.toNat w ∨ h ≠ len := fun k c => by
    by_cases e : h = len
    · left; exact run_bound h0 (by omega) w
    · exact .inr e
  rcases hM with ⟨rfl, rfl⟩ | ⟨rfl, hne⟩
  · rcases hH with ⟨rfl, rfl⟩ | ⟨k2, rfl⟩
    · rcases hL with ⟨rfl, rfl⟩ | ⟨k1, rfl⟩
      · simp [Instr.sliceBounds]
      · have := b1
        simp only [Int.toNat_natCast] at this
        simp [Instr.sliceBounds, this]
    · rcases hL with ⟨rfl, rfl⟩ | ⟨k1, rfl⟩
      · simp [Instr.sliceBounds, b2]
      · simp [Instr.sliceBounds, b2, b1]
  · rcases hH with ⟨rfl, rfl⟩ | ⟨k2, rfl⟩
    · exact absurd rfl hne
    · rcases hL with ⟨rfl, rfl⟩ | ⟨k1, rfl⟩
      · simp [Instr.sliceBounds, b2, b3]
      · simp [Instr.sliceBounds, b2, b3, b1]

theorem evCut_sound {t : TypeId} {e : Ty} {xs : List e.car} {lo hi mx : Option AV} {u : Value} {lv hv mv : Option Value} {out : Out} (h : evCut P t e xs lo hi mx = some out) (hob : ∀ p ∈ out.ob, p)
    (hx : VR F β w (.dat (.list e) xs) u ∨ VR F β w (.full e xs) u) (hl : OVR F β w lo lv) (hh : OVR F β w hi hv) (hm : OVR F β w mx mv) :
    out.wr = [] ∧ out.v.refs = [] ∧ ∃ r, (Instr.sliceAt t u lv hv mv).run P w = .ok r w ∧ VR F β w out.v r := by
  obtain ⟨A, c, rfl, hc, hmax, hrow⟩ := list_val hx
  unfold evCut at h
  split at h
  · rename_i l h' te e1 e2 e3
    have hu := elemOf_spec e3
    split at h
    · rename_i hsz
      obtain ⟨i, hi'⟩ := Option.isSome_iff_exists.1 hsz.2.1
      have hsize := run_sizeOf' hi'
      have hL : (lv = none ∧ l = 0) ∨ (∃ k, lv = some (.int k l)) := by
        rcases hl.num e1 with ⟨_, a, b⟩ | ⟨a, _⟩
        · exact .inl ⟨a, b⟩
        · exact .inr a
      have hH : (hv = none ∧ h' = xs.length) ∨ (∃ k, hv = some (.int k h')) := by
        rcases hh.num e2 with ⟨_, a, b⟩ | ⟨a, _⟩
        · exact .inl ⟨a, b⟩
        · exact .inr a
      have hlen : 0 ≤ l → l ≤ h' → h' ≤ xs.length → ((xs.take h'.toNat).drop l.toNat).length = h'.toNat - l.toNat := fun _ _ _ => by
        rw [List.length_drop, List.length_take, Nat.min_eq_left (by omega)]
      have row : ∀ (m : Nat), 0 ≤ l → l ≤ h' → h' ≤ xs.length → h' ≤ m → ((xs.take h'.toNat).drop l.toNat) = [] ∨
          ∃ b o, (if m = l.toNat then A else A.map (·.add (l.toNat * e.nc))) = some ⟨b, o, none⟩ ∧ F b ∧ RowAt w e.nc (RD F w e) ((xs.take h'.toNat).drop l.toNat) b o := by
        intro m h0 h1 h2 h3
        by_cases hz : h'.toNat = l.toNat
        · left; exact List.eq_nil_of_length_eq_zero (by rw [hlen h0 h1 h2]; omega)
        · right
          rcases hrow with rfl | ⟨b, o, rfl, hb, hr⟩
          · simp at h2; omega
          · refine ⟨b, o + l.toNat * e.nc, ?_, hb, row_cut hr⟩
            rw [if_neg (by omega)]
            simp [Addr.add_mid]
      have run : ∀ m, (Instr.sliceBounds true xs.length c lv hv mv).run P w = .ok (l.toNat, h'.toNat, m) w →
          (Instr.sliceAt t (.slice A xs.length c) lv hv mv).run P w = .ok (.slice (if m = l.toNat then A else A.map (·.add (l.toNat * e.nc))) (h'.toNat - l.toNat) (m - l.toNat)) w := by
        intro m hr
        simp [Instr.sliceAt, Instr.slice, run_underlying hu, hr, hsize, hsz.1]
      unfold cutOut at h
      split at h
      · obtain rfl := Option.some.inj h
        obtain ⟨h0, h1, h2⟩ : 0 ≤ l ∧ l ≤ h' ∧ h' ≤ xs.length := hob _ (List.mem_singleton.2 rfl)
        have hmv : mv = none := by cases mv <;> simp_all [OVR]
        refine ⟨rfl, rfl, _, run c (run_bounds hL hH (.inl ⟨hmv, rfl⟩) h0 h1 (by omega) (Nat.le_refl _) w), ?_⟩
        rw [← hlen h0 h1 h2]
        exact mk_list (by rw [hlen h0 h1 h2]; omega) (by rw [hlen h0 h1 h2]; omega) (row c h0 h1 h2 (by omega))
      · rename_i m
        obtain rfl := Option.some.inj h
        obtain ⟨h0, h1, hmh, h2⟩ : 0 ≤ l ∧ l ≤ h' ∧ (m : Int) = h' ∧ h' ≤ xs.length := hob _ (List.mem_singleton.2 rfl)
        have hmv : mv = some (.int .i64 (h'.toNat : Int)) := by
          cases mv with
          | none => simp [OVR] at hm
          | some v =>
            have hm' : VR F β w (.dat (.int .i64) m) v := hm
            rw [(int_val hm').1, hmh, Int.toNat_of_nonneg (by omega)]
        have hne : hv ≠ none := by
          rcases hsz.2.2 with hq | hq
          · simp at hq
          · cases hi with
            | none => simp at hq
            | some a => cases hv with
              | none => simp [OVR] at hh
              | some v => simp
        refine ⟨rfl, rfl, _, run h'.toNat (run_bounds hL hH (.inr ⟨hmv, hne⟩) h0 h1 (by omega) (by omega) w), ?_⟩
        rw [← hlen h0 h1 h2]
        unfold VR
        refine ⟨_, rfl, _, _, rfl, Nat.le_refl _, by rw [hlen h0 h1 h2]; omega, row h'.toNat h0 h1 h2 (by omega)⟩
      · cases h
    · cases h
  · cases h

theorem evSlice_sound {t : TypeId} {x : AV} {lo hi mx : Option AV} {u : Value} {lv hv mv : Option Value} {out : Out} (h : evSlice P t x lo hi mx = some out) (hob : ∀ p ∈ out.ob, p)
    (hx : VR F β w x u) (hl : OVR F β w lo lv) (hh : OVR F β w hi hv) (hm : OVR F β w mx mv) :
    out.wr = [] ∧ out.v.refs = [] ∧ ∃ r, (Instr.sliceAt t u lv hv mv).run P w = .ok r w ∧ VR F β w out.v r := by
  unfold evSlice at h
  split at h
  · rename_i s
    obtain ⟨rfl, hs⟩ := str_val hx
    split at h
    · rename_i hu
      have hmv : mv = none := by cases mv <;> simp_all [OVR]
      subst hmv
      unfold cutStr at h
      split at h
      · rename_i l h' e1 e2
        obtain rfl := Option.some.inj h
        obtain ⟨h0, h1, h2⟩ : 0 ≤ l ∧ l ≤ h' ∧ h' ≤ (s : ByteArray).size := hob _ (List.mem_singleton.2 rfl)
        have hL : (lv = none ∧ l = 0) ∨ (∃ k, lv = some (.int k l)) := by
          rcases hl.num e1 with ⟨_, a, b⟩ | ⟨a, _⟩
          · exact .inl ⟨a, b⟩
          · exact .inr a
        have hH : (hv = none ∧ h' = (s : ByteArray).size) ∨ (∃ k, hv = some (.int k h')) := by
          rcases hh.num e2 with ⟨_, a, b⟩ | ⟨a, _⟩
          · exact .inl ⟨a, b⟩
          · exact .inr a
        have hr := run_bounds (P := P) (isS := false) (len := (s : ByteArray).size) (cap := (s : ByteArray).size) (m := (s : ByteArray).size) (mv := none) hL hH (.inl ⟨rfl, rfl⟩) h0 h1 h2 (Nat.le_refl _) w
        refine ⟨rfl, rfl, .string ((s : ByteArray).extract l.toNat h'.toNat), ?_, mk_str ?_⟩
        · simp [Instr.sliceAt, Instr.slice, run_underlying hu, hr]
        · rw [ByteArray.size_extract]; omega
      · cases h
    · cases h
  · exact evCut_sound h hob (.inl hx) hl hh hm
  · exact evCut_sound h hob (.inr hx) hl hh hm
  · cases h

theorem evIndexAddr_sound {t : TypeId} {x i : AV} {u v : Value} {out : Out} (hI : Inv F β al rg w) (hs : SubR rgK rg) (h : evIndexAddr P t x i rgK = some out) (hob : ∀ p ∈ out.ob, p) (hx : VR F β w x u) (hi : VR F β w i v) :
    out.wr = [] ∧ (∀ k ∈ out.v.refs, al k) ∧ ∃ r, (Instr.indexAt t u v).run P w = .ok r w ∧ VR F β w out.v r := by
  have list : ∀ (e : Ty) (xs : List e.car) (k : IntKind) (n : Int) (te : TypeId), (VR F β w (.dat (.list e) xs) u ∨ VR F β w (.full e xs) u) → elemOf P t = some te → VR F β w (.dat (.int k) n) v →
      (if P.cellsOf te = e.nc ∧ (P.info? te).isSome then some ({ v := .elt e xs (n : Int).toNat 0, ob := [0 ≤ (n : Int) ∧ (n : Int) < xs.length] } : Out) else none) = some out →
      out.wr = [] ∧ (∀ k ∈ out.v.refs, al k) ∧ ∃ r, (Instr.indexAt t u v).run P w = .ok r w ∧ VR F β w out.v r := by
    intro e xs k n te hx hte hn h
    obtain ⟨A, c, rfl, hc, hmax, hrow⟩ := list_val hx
    obtain ⟨rfl, _⟩ := int_val hn
    have hu := elemOf_spec hte
    split at h
    · rename_i hsz
      obtain ⟨inf, hi'⟩ := Option.isSome_iff_exists.1 hsz.2
      obtain rfl := Option.some.inj h
      obtain ⟨h0, h1⟩ : 0 ≤ n ∧ n < xs.length := hob _ (List.mem_singleton.2 rfl)
      rcases hrow with rfl | ⟨b, o, rfl, hb, hr⟩
      · simp at h1; omega
      · refine ⟨rfl, fun k hk => by simp [AV.refs] at hk, .pointer (some ⟨b, o + n.toNat * e.nc, none⟩), ?_, ?_⟩
        · simp [Instr.indexAt, run_underlying hu, asIntOf, h0, h1, run_sizeOf' hi', hsz.1, Addr.add_mid]
        · unfold VR; exact ⟨b, o, by simp, hb, by omega, hr⟩
    · cases h
  have own : ∀ (k' : Nat) (e : Ty) (xs : List e.car) (k : IntKind) (n : Int) (te : TypeId), u = .slice (β k').A (β k').len (β k').cap → al k' → Arr F w (β k') e xs → elemOf P t = some te → VR F β w (.dat (.int k) n) v →
      (if P.cellsOf te = e.nc ∧ (P.info? te).isSome then some ({ v := .aelt k' (n : Int).toNat 0, ob := [0 ≤ (n : Int) ∧ (n : Int) < xs.length] } : Out) else none) = some out →
      out.wr = [] ∧ (∀ k ∈ out.v.refs, al k) ∧ ∃ r, (Instr.indexAt t u v).run P w = .ok r w ∧ VR F β w out.v r := by
    rintro k' e xs k n te rfl hal hA hte hn h
    obtain ⟨rfl, _⟩ := int_val hn
    have hu := elemOf_spec hte
    split at h
    · rename_i hsz
      obtain ⟨inf, hi'⟩ := Option.isSome_iff_exists.1 hsz.2
      obtain rfl := Option.some.inj h
      obtain ⟨h0, h1⟩ : 0 ≤ n ∧ n < xs.length := hob _ (List.mem_singleton.2 rfl)
      have hno : 0 < (β k').cap := by have := hA.cap; omega
      · 
        refine ⟨rfl, fun j hj => by simp [AV.refs] at hj; exact hj ▸ hal, .pointer (some ⟨(β k').b, (β k').o + n.toNat * e.nc, none⟩), ?_, ?_⟩
        · have h1' : n < (β k').len := by rw [hA.len]; exact h1
          simp [Instr.indexAt, run_underlying hu, asIntOf, h0, h1', run_sizeOf' hi', hsz.1, Addr.add_mid, hA.adr hno]
        · unfold VR; rw [hA.s, hA.len]; exact ⟨by simp, by omega⟩
    · cases h
  unfold evIndexAddr at h
  split at h
  · split at h
    · rename_i te hte; exact list _ _ _ _ te (.inl hx) hte hi h
    · cases h
  · split at h
    · rename_i te hte; exact list _ _ _ _ te (.inr hx) hte hi h
    · cases h
  · rename_i k' k n
    split at h
    · rename_i te e xs hte hk
      have hrg := hs.at hk (by simp)
      have hok := hI.ok k'; rw [hrg] at hok
      exact own k' e xs _ _ te (by unfold VR at hx; exact hx) (hI.tk k' (by rw [hrg]; simp)) hok hte hi h
    · rename_i te e xs hte hk
      have hrg := hs.at hk (by simp)
      have hok := hI.ok k'; rw [hrg] at hok
      exact own k' e xs _ _ te (by unfold VR at hx; exact hx) (hI.tk k' (by rw [hrg]; simp)) hok.1 hte hi h
    · cases h
  · cases h
end
end Go.Abs
