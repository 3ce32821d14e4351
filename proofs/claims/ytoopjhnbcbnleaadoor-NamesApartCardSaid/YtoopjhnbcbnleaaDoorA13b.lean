/-
Arrays that are seen as data from now on.
-/
import Derived.Test.YtoopjhnbcbnleaaDoorA13
namespace Go.Abs
open Go.RowKit
set_option linter.unusedVariables false
set_option linter.unusedSimpArgs false
set_option linter.unnecessarySimpa false

section
variable {F : Nat → Prop} {β : Nat → Base} {al : Nat → Prop} {rg : Nat → Reg} {w : World}

/-- The regions of the call's own, with every array seen as data from now on. -/
def frzReg : Reg → Reg
  | .arr t xs | .own t xs => if t.nc = 0 then .dead else .fz t xs
  | r => r

def rgz (z : Nat → Bool) (rg : Nat → Reg) (k : Nat) : Reg := if z k = false then rg k else frzReg (rg k)

theorem freeze_all (hI : Inv F β al rg w) (m : Nat → Bool) : ∃ F', (∀ b, F b → F' b) ∧ (∀ b, F' b → F b ∨ ∃ k i, fp (β k) (rg k) b i) ∧ Inv F' β al (rgz m rg) w ∧ ∀ k b i, fp (β k) (rgz m rg k) b i → fp (β k) (rg k) b i := by
  let Z : Nat → Prop := fun k => m k = true ∧ ∃ t xs, rgz m rg k = .fz t xs ∧ (rg k = .arr t xs ∨ rg k = .own t xs) ∧ t.nc ≠ 0
  let F' : Nat → Prop := fun b => F b ∨ ∃ k i, Z k ∧ fp (β k) (rg k) b i
  have cases' : ∀ k, Z k ∨ rgz m rg k = .dead ∨ rgz m rg k = rg k := fun k => by
    by_cases hk : m k = false
    · exact .inr (.inr (by simp [rgz, hk]))
    · have e : rgz m rg k = frzReg (rg k) := by simp [rgz, hk]
      cases hr : rg k with
      | arr t xs =>
        by_cases h0 : t.nc = 0
        · exact .inr (.inl (by rw [e, hr]; simp [frzReg, h0]))
        · exact .inl ⟨by simpa using hk, t, xs, by rw [e, hr]; simp [frzReg, h0], .inl hr, h0⟩
      | own t xs =>
        by_cases h0 : t.nc = 0
        · exact .inr (.inl (by rw [e, hr]; simp [frzReg, h0]))
        · exact .inl ⟨by simpa using hk, t, xs, by rw [e, hr]; simp [frzReg, h0], .inr hr, h0⟩
      | cells cs => exact .inr (.inr (by rw [e, hr]; rfl))
      | fz t xs => exact .inr (.inr (by rw [e, hr]; rfl))
      | loop L tm j => exact .inr (.inr (by rw [e, hr]; rfl))
      | dead => exact .inr (.inr (by rw [e, hr]; rfl))
  have fpx : ∀ k b i, fp (β k) (rgz m rg k) b i → ¬ Z k ∧ fp (β k) (rg k) b i := fun k b i hf => by
    refine ⟨fun ⟨_, t, xs, h, _⟩ => by rw [h] at hf; exact hf, ?_⟩
    rcases cases' k with ⟨_, t, xs, h, _⟩ | h | h
    · rw [h] at hf; exact hf.elim
    · rw [h] at hf; exact hf.elim
    · rw [h] at hf; exact hf
  refine ⟨F', fun b h => .inl h, fun b h => h.imp id fun ⟨k, i, _, h⟩ => ⟨k, i, h⟩, ⟨fun k => ?_, fun i j b o o' hij h1 h2 => ?_, fun k b i hf hF => ?_, fun b hb => ?_, fun k hk => ?_, fun i j hj => ?_⟩, fun k b i hf => (fpx k b i hf).2⟩
  · rcases cases' k with ⟨hm, t, xs, h, hr, h0⟩ | h | h
    · rw [h]
      have hA : Arr F w (β k) t xs := by
        have := hI.ok k
        rcases hr with hr | hr <;> rw [hr] at this
        · exact this
        · exact this.1
      refine ⟨(β k).A, (β k).cap, by rw [hA.len], hA.cap, hA.max, ?_⟩
      by_cases hx : xs = []
      · exact .inl hx
      · right
        have hpos : 0 < (β k).cap := by have := hA.cap; have : 0 < xs.length := List.length_pos_iff.2 hx; omega
        have hF : F' (β k).b := by
          cases hb : (β k).bor with
          | true => exact .inl (hA.bor hpos hb).2
          | false =>
            refine .inr ⟨k, (β k).o, ⟨hm, t, xs, h, hr, h0⟩, ?_⟩
            have : (β k).o < (β k).o + (β k).cap * t.nc := by have := Nat.mul_pos hpos (Nat.pos_of_ne_zero h0); omega
            rcases hr with hr | hr <;> rw [hr]
            · exact ⟨hb, rfl, Nat.le_refl _, this⟩
            · exact ⟨hb, rfl, Nat.le_refl _, this⟩
        exact ⟨_, _, hA.adr hpos, hF, (hA.row hpos).mono (fun x vs _ h => h.mono (fun b h => .inl h) fun _ _ _ _ h => h) fun _ _ h => h⟩
    · rw [h]; trivial
    · rw [h]
      exact (hI.ok k).keep (fun b h => .inl h) (fun _ _ _ _ h => h) (fun _ _ => rfl) (Nat.le_refl _) fun _ _ _ => ⟨rfl, rfl, fun _ => rfl⟩
  · exact hI.dj i j b o o' hij (fpx i b o h1).2 (fpx j b o' h2).2
  · obtain ⟨hz, hf'⟩ := fpx k b i hf
    rcases hF with hF | ⟨k', i', hz', hF⟩
    · exact hI.nf k b i hf' hF
    · exact hI.dj k k' b i i' (fun e => hz (e ▸ hz')) hf' hF
  · exact hb.elim (hI.ff b) fun ⟨k, i, _, h⟩ => (hI.ok k).lt h
  · refine hI.tk k fun e => hk ?_
    rcases cases' k with ⟨_, t, xs, h, hr, _⟩ | h | h
    · rcases hr with hr | hr <;> rw [hr] at e <;> cases e
    · exact h
    · rw [h, e]
  · rcases cases' i with ⟨_, t, xs, h, _⟩ | h | h
    · rw [h] at hj; simp [Reg.refs] at hj
    · rw [h] at hj; simp [Reg.refs] at hj
    · rw [h] at hj; exact hI.sc i j hj


/-- The state with every array of the call's own (those from m on) seen as data. -/
def frzHp : Nat → List Reg → List Reg
  | _, [] => []
  | 0, r :: rs => frzReg r :: frzHp 0 rs
  | n + 1, r :: rs => r :: frzHp n rs

def frzSt (m : Nat) (s : St) : St := { s with hp := frzHp m s.hp }

theorem frzHp_len : ∀ (m : Nat) (hp : List Reg), (frzHp m hp).length = hp.length
  | _, [] => rfl
  | 0, r :: rs => by simp [frzHp, frzHp_len 0 rs]
  | n + 1, r :: rs => by simp [frzHp, frzHp_len n rs]

theorem frzHp_at : ∀ (m : Nat) (hp : List Reg) (k : Nat), rgOf (frzHp m hp) k = rgz (fun k => decide (m ≤ k)) (rgOf hp) k
  | m, [], k => by simp only [frzHp, rgz, rgOf, List.getD_nil]; split <;> rfl
  | 0, r :: rs, 0 => by simp [frzHp, rgz, rgOf]
  | 0, r :: rs, k + 1 => by
    have := frzHp_at 0 rs k
    simpa [frzHp, rgz, rgOf] using this
  | n + 1, r :: rs, 0 => by simp [frzHp, rgz, rgOf]
  | n + 1, r :: rs, k + 1 => by
    have := frzHp_at n rs k
    simpa [frzHp, rgz, rgOf] using this

theorem SR.freeze {s : St} {ds : List Deferred} {F0 : Nat → Prop} {S0 : Nat → Nat → Prop} {w0 : World} {β0 : Nat → Base} {m0 : Nat} {F : Nat → Prop} {β : Nat → Base} {a : Act} {w : World} (hI : SR ds F0 S0 w0 β0 m0 s F β a w) (m : Nat) :
    ∃ F', SR ds F0 S0 w0 β0 m0 (frzSt m s) F' β a w := by
  obtain ⟨F', h1, h2, h3, h4⟩ := freeze_all hI.inv fun k => decide (m ≤ k)
  have e : rgOf (frzSt m s).hp = rgz (fun k => decide (m ≤ k)) (rgOf s.hp) := funext fun k => frzHp_at m s.hp k
  have el : (frzSt m s).hp.length = s.hp.length := frzHp_len m s.hp
  refine ⟨F', by rw [e, el]; exact h3, ⟨hI.fr.chg, fun b hb => h1 b (hI.fr.f0 b hb), fun b hb => ?_, fun k b i hf => ?_, hI.fr.bt⟩, hI.size, hI.ds, by rw [el]; exact hI.mle, fun t ht => ?_⟩
  · rcases h2 b hb with h | ⟨k, i, h⟩
    · exact hI.fr.f1 b h
    · rcases hI.fr.own k b i h with h | h
      · exact .inr (.inl ⟨i, h⟩)
      · exact .inr (.inr h)
  · rw [e] at hf; exact hI.fr.own k b i (h4 k b i hf)
  · rw [el]
    have := hI.slot t ht
    exact ⟨this.1.mono h1 (fun _ _ _ _ h => h) fun _ _ => rfl, this.2⟩

/-- A slot whose slice is nil or empty, made an array of its own. -/
def ownSt (t : Tmp) (e : Ty) (s : St) : St := match s.tm.getD t .bad with
  | .cst (.slice none 0 0) | .nul => { tm := s.tm.set t (.arr s.hp.length), hp := s.hp ++ [.own e []] }
  | _ => s

theorem SR.own {s : St} {ds : List Deferred} {F0 : Nat → Prop} {S0 : Nat → Nat → Prop} {w0 : World} {β0 : Nat → Base} {m0 : Nat} {F : Nat → Prop} {β : Nat → Base} {a : Act} {w : World} (hI : SR ds F0 S0 w0 β0 m0 s F β a w) (t : Tmp) (e : Ty) :
    ∃ β', SR ds F0 S0 w0 β0 m0 (ownSt t e s) F β' a w := by
  have key : ∀ A : Option Addr, t < s.tm.length → a.tmps.getD t undef = .slice A 0 0 → ∃ β', SR ds F0 S0 w0 β0 m0 { tm := s.tm.set t (.arr s.hp.length), hp := s.hp ++ [.own e []] } F β' a w := by
    intro A ht hv
    let n := s.hp.length
    let B : Base := { b := 0, o := 0, s := e.nc, len := 0, cap := 0, A := A }
    let β' := upd β n B
    have old : ∀ k, k < n → β' k = β k := fun k hk => upd_ne _ _ _ (by omega)
    have rgl : ∀ k, rgOf (s.hp ++ [.own e []]) k = if k = n then .own e [] else rgOf s.hp k := fun k => by
      by_cases h : k = n
      · subst h; simp [rgOf, n]
      · rw [if_neg h]
        rcases Nat.lt_or_ge k n with h' | h'
        · simp [rgOf, List.getElem?_append_left (show k < s.hp.length from h')]
        · simp only [rgOf, List.getD_eq_getElem?_getD]
          rw [List.getElem?_eq_none (by simp; omega), List.getElem?_eq_none (by omega)]
    have fpn : ∀ k b i, fp (β' k) (rgOf (s.hp ++ [.own e []]) k) b i → k ≠ n ∧ fp (β k) (rgOf s.hp k) b i := fun k b i hf => by
      rw [rgl] at hf
      by_cases h : k = n
      · rw [if_pos h] at hf
        subst h
        obtain ⟨_, _, h1, h2⟩ := hf
        rw [show β' n = B from upd_same ..] at h1 h2
        simp [B] at h1 h2
      · rw [if_neg h] at hf
        refine ⟨h, ?_⟩
        rcases Nat.lt_or_ge k n with h' | h'
        · rw [old k h'] at hf; exact hf
        · rw [show rgOf s.hp k = .dead by simp [rgOf, List.getElem?_eq_none (show s.hp.length ≤ k from h')]] at hf; exact hf.elim
    refine ⟨β', ⟨fun k => ?_, fun k k' b i j hne h1 h2 => hI.inv.dj k k' b i j hne (fpn k b i h1).2 (fpn k' b j h2).2, fun k b i hf => hI.inv.nf k b i (fpn k b i hf).2, hI.inv.ff, fun k hk => ?_, fun k j hj => ?_⟩,
      ⟨hI.fr.chg, hI.fr.f0, hI.fr.f1, fun k b i hf => hI.fr.own k b i (fpn k b i hf).2, fun k hk => ?_⟩, by simpa using hI.size, hI.ds, by have := hI.mle; simp; omega, fun i hi => ?_⟩
    · rw [rgl]
      by_cases h : k = n
      · rw [if_pos h]
        subst h
        rw [show β' n = B from upd_same ..]
        exact ⟨⟨rfl, rfl, Nat.le_refl _, Nat.zero_le _, fun h => absurd h (Nat.lt_irrefl _), fun h => absurd h (Nat.lt_irrefl _), fun h => absurd h (Nat.lt_irrefl _), fun h => absurd h (Nat.lt_irrefl _), fun h => absurd h (Nat.lt_irrefl _)⟩, rfl⟩
      · rw [if_neg h]
        rcases Nat.lt_or_ge k n with h' | h'
        · rw [old k h']
          exact (hI.inv.ok k).keep (fun _ h => h) (fun _ _ _ _ h => h) (fun i hi => old i (hI.inv.sc k i hi)) (Nat.le_refl _) fun _ _ _ => ⟨rfl, rfl, fun _ => rfl⟩
        · rw [show rgOf s.hp k = .dead by simp [rgOf, List.getElem?_eq_none (show s.hp.length ≤ k from h')]]; trivial
    · rw [rgl] at hk
      simp only [List.length_append, List.length_singleton]
      by_cases h : k = n
      · omega
      · rw [if_neg h] at hk
        have := hI.inv.tk k hk
        omega
    · rw [rgl] at hj
      simp only [List.length_append, List.length_singleton]
      by_cases h : k = n
      · rw [if_pos h] at hj; simp [Reg.refs] at hj
      · rw [if_neg h] at hj
        have := hI.inv.sc k j hj
        omega
    · rw [old k (by have := hI.mle; omega)]; exact hI.fr.bt k hk
    · simp only [List.length_set] at hi
      simp only [List.length_append, List.length_singleton]
      by_cases h : t = i
      · subst h
        rw [show (s.tm.set t (AV.arr s.hp.length)).getD t .bad = .arr n by simp [ht, n], hv]
        refine ⟨by unfold VR; rw [show β' n = B from upd_same ..], fun k hk => ?_⟩
        simp [AV.refs] at hk; omega
      · rw [getD_set_ne' _ _ _ _ _ h]
        have := hI.slot i hi
        exact ⟨this.1.mono (fun _ h => h) (fun _ _ _ _ h => h) fun k hk => old k (this.2 k hk), fun k hk => by have := this.2 k hk; omega⟩
  have hlt : s.tm.getD t .bad ≠ .bad → t < s.tm.length := fun h => by
    rcases Nat.lt_or_ge t s.tm.length with h' | h'
    · exact h'
    · exact absurd (by simp [List.getElem?_eq_none h']) h
  unfold ownSt
  split
  · rename_i h
    have ht := hlt (by rw [h]; simp)
    have hv := (hI.slot t ht).1
    rw [h] at hv
    unfold VR at hv
    exact key none ht hv.1
  · rename_i h
    have ht := hlt (by rw [h]; simp)
    have hv := (hI.slot t ht).1
    rw [h] at hv
    unfold VR at hv
    obtain ⟨A, hv⟩ := hv
    exact key A ht hv
  · exact ⟨β, hI⟩
end
end Go.Abs
