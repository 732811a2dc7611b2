/- A call: what is handed over, what comes back. -/
import Derived.Test.YtppmmeciihmnjaaDoorK283SimG
set_option linter.unusedSimpArgs false
set_option linter.unusedVariables false
namespace Go.DM
section
variable {P : Program} {X : Cx} {φ : Nat → Option Loc} {w : World} {σ : St} {a : Act}

def hide (ids : List Nat) (objs : Nat → Option Ob) : Nat → Option Ob := fun o => if ids.contains o then none else objs o

theorem hide_some {ids : List Nat} {objs : Nat → Option Ob} {o : Nat} {ob : Ob} (h : hide ids objs o = some ob) : objs o = some ob ∧ ids.contains o = false := by
  unfold hide at h
  split at h
  · cases h
  · rename_i hc; exact ⟨h, by simpa using hc⟩

/-- The regions lie in the blocks of these objects. -/
def Covers (φ : Nat → Option Loc) (σ : St) (ids : List Nat) (Mt : List Reg) : Prop := ∀ m ∈ Mt, ∃ o ob l, ids.contains o = true ∧ σ.objs o = some ob ∧ φ o = some l ∧ l.1 = m.1

theorem inner_own {B : Nat} {M Mt : List Reg} (h : Rel X B M φ σ a w) {ids : List Nat} (hc : Covers φ σ ids Mt) {o : Nat} {ob : Ob} {l : Loc} (hob : hide ids σ.objs o = some ob) (hφ : φ o = some l) : (inner X.ρ w Mt).I l.1 := by
  obtain ⟨h1, h2⟩ := hide_some hob
  refine ⟨(h.own o ob l h1 hφ).2.1, fun m hm e => ?_⟩
  obtain ⟨o', ob', l', g1, g2, g3, g4⟩ := hc m hm
  have := h.inj o' o ob' ob l' l g2 h1 g3 hφ (g4.trans e)
  subst this
  rw [g1] at h2; cases h2

theorem inner_data {B : Nat} {M Mt : List Reg} (h : Rel X B M φ σ a w) {ids : List Nat} (hc : Covers φ σ ids Mt) {b : Nat} (hb : X.I b) : (inner X.ρ w Mt).I b := by
  refine ⟨h.lt b hb, fun m hm e => ?_⟩
  obtain ⟨o', ob', l', g1, g2, g3, g4⟩ := hc m hm
  exact (h.own o' ob' l' g2 g3).1 (by rw [g4, e]; exact hb)

theorem drop_range {b o : Nat} {cs : List S} (h : w.rangeAt b o (encs cs)) (off : Nat) : w.rangeAt b (o + off) (encs (cs.drop off)) := fun j v hv => by
  have : (encs cs)[off + j]? = some v := by
    simp only [encs, List.map_drop, List.getElem?_drop] at hv ⊢
    exact hv
  have := h _ v this
  rwa [show o + (off + j) = o + off + j by omega] at this

theorem all?_sim {α β γ : Type} {f : α → Option β} {R : α → γ → Prop} {R' : β → γ → Prop} (hf : ∀ x y v, f x = some y → R x v → R' y v) : ∀ {xs : List α} {ys : List β} {vs : List γ}, all? f xs = some ys → All2 R xs vs → All2 R' ys vs
  | [], ys, vs, h, hr => by cases h; rw [hr.nil_left]; exact .nil
  | x :: xs, ys, vs, h, hr => by
    obtain ⟨v, vs', rfl, h1, h2⟩ := hr.head
    simp only [all?] at h
    rw [Option.bind_eq_some_iff] at h
    obtain ⟨y, hy, h⟩ := h
    rw [Option.map_eq_some_iff] at h
    obtain ⟨ys', hys, rfl⟩ := h
    exact .cons (hf x y v hy h1) (all?_sim hf hys h2)

theorem toD_sim {B : Nat} {M Mt : List Reg} (h : Rel X B M φ σ a w) {ids : List Nat} (hc : Covers φ σ ids Mt) : ∀ (n : Nat),
    (∀ (x : A) (d : D) (u : Value), toDA (hide ids σ.objs) (toDV (hide ids σ.objs) n) x = some d → ARel X φ w x u → DRel X.ρ (inner X.ρ w Mt).I w d u) ∧
    (∀ (x : V) (d : D) (u : Value), toDV (hide ids σ.objs) n x = some d → VRel X φ w x u → DRel X.ρ (inner X.ρ w Mt).I w d u)
  | 0 => by
    refine ⟨?_, fun x d u hd => by simp [toDV] at hd⟩
    intro x d u hd hx
    unfold toDA at hd
    split at hd
    · cases hd
      exact DRel.mono (fun b hb => ⟨inner_data h hc hb, rfl⟩) hx
    · obtain ⟨l, g1, rfl⟩ := hx
      split at hd
      · rename_i hob
        cases hd
        obtain ⟨l', g1', g2⟩ := h.objs _ _ (hide_some hob).1
        rw [g1] at g1'; cases g1'
        exact DRel.ref _ _ _ (inner_own h hc hob g1) (drop_range (flat_range g2) _)
      · simp [toDV] at hd
      · cases hd
    · rename_i o off len es
      obtain ⟨l, ad, cap, g1, rfl, g3, g4, g5⟩ := hx
      split at hd
      · rename_i hob
        split at hd
        · rename_i hle
          cases hd
          obtain ⟨l', g1', g2⟩ := h.objs _ _ (hide_some hob).1
          rw [g1] at g1'; cases g1'
          by_cases h0 : cap = 0
          · obtain rfl : len = 0 := by omega
            exact DRel.sl0 _ _ _ _ (by simp)
          · rw [g4 h0]
            exact DRel.sl _ _ _ _ _ _ (inner_own h hc hob g1) g3 (by rw [List.length_take, List.length_drop]; omega) (rangeAt_sub (flat_range g2) off (len * es))
        · cases hd
      · cases hd
    · obtain ⟨b, o, g1, rfl, g2⟩ := hx
      cases hd
      exact DRel.ref _ _ _ (inner_data h hc g1) (drop_range g2 _)
    · cases hd
    · cases hd
    · rename_i o
      split at hd
      · rename_i hob
        cases hd
        obtain ⟨l, g1, rfl⟩ := hx
        obtain ⟨l', g1', g2⟩ := h.objs _ _ (hide_some hob).1
        rw [g1] at g1'; cases g1'
        exact DRel.map _ _ _ (inner_own h hc hob g1) g2
      · cases hd
  | n + 1 => by
    obtain ⟨ihA, ihV⟩ := toD_sim h hc n
    have hA : ∀ (x : A) (d : D) (u : Value), toDA (hide ids σ.objs) (toDV (hide ids σ.objs) n) x = some d → ARel X φ w x u → DRel X.ρ (inner X.ρ w Mt).I w d u := ihA
    have hV : ∀ (x : V) (d : D) (u : Value), toDV (hide ids σ.objs) (n + 1) x = some d → VRel X φ w x u → DRel X.ρ (inner X.ρ w Mt).I w d u := by
      intro x d u hd hx
      unfold toDV at hd
      split at hd
      · rename_i heq; cases heq
      · rename_i heq
        cases heq
        exact hA _ _ _ hd hx
      · rename_i f p q heq
        cases heq
        rw [Option.bind_eq_some_iff] at hd
        obtain ⟨p', h1, hd⟩ := hd
        rw [Option.map_eq_some_iff] at hd
        obtain ⟨q', h2, rfl⟩ := hd
        obtain ⟨ps, qs, rfl, g1, g2⟩ := hx
        have k1 := all?_sim (R' := DRel X.ρ (inner X.ρ w Mt).I w) (fun x y v hy hr => hA x y v hy hr) h1 g1
        have k2 := all?_sim (R' := DRel X.ρ (inner X.ρ w Mt).I w) (fun x y v hy hr => hA x y v hy hr) h2 g2
        exact DRel.clo _ _ _ _ _ k1.1 k2.1 k1.2 k2.2
      · cases hd
    refine ⟨?_, hV⟩
    intro x d u hd hx
    unfold toDA at hd
    split at hd
    · cases hd
      exact DRel.mono (fun b hb => ⟨inner_data h hc hb, rfl⟩) hx
    · obtain ⟨l, g1, rfl⟩ := hx
      split at hd
      · rename_i hob
        cases hd
        obtain ⟨l', g1', g2⟩ := h.objs _ _ (hide_some hob).1
        rw [g1] at g1'; cases g1'
        exact DRel.ref _ _ _ (inner_own h hc hob g1) (drop_range (flat_range g2) _)
      · rename_i hob
        split at hd
        · rename_i h0
          subst h0
          rw [Option.map_eq_some_iff] at hd
          obtain ⟨d', h1, rfl⟩ := hd
          obtain ⟨l', g1', c, T, fz, v, k1, k2, _, k4⟩ := h.objs _ _ (hide_some hob).1
          rw [g1] at g1'; cases g1'
          exact DRel.refd _ _ _ v (inner_own h hc hob g1) (by simp [World.cell?, k1.1, k2]) (hV _ _ _ h1 k4)
        · cases hd
      · cases hd
    · rename_i o off len es
      obtain ⟨l, ad, cap, g1, rfl, g3, g4, g5⟩ := hx
      split at hd
      · rename_i hob
        split at hd
        · rename_i hle
          cases hd
          obtain ⟨l', g1', g2⟩ := h.objs _ _ (hide_some hob).1
          rw [g1] at g1'; cases g1'
          by_cases h0 : cap = 0
          · obtain rfl : len = 0 := by omega
            exact DRel.sl0 _ _ _ _ (by simp)
          · rw [g4 h0]
            exact DRel.sl _ _ _ _ _ _ (inner_own h hc hob g1) g3 (by rw [List.length_take, List.length_drop]; omega) (rangeAt_sub (flat_range g2) off (len * es))
        · cases hd
      · cases hd
    · obtain ⟨b, o, g1, rfl, g2⟩ := hx
      cases hd
      exact DRel.ref _ _ _ (inner_data h hc g1) (drop_range g2 _)
    · cases hd
    · cases hd
    · rename_i o
      split at hd
      · rename_i hob
        cases hd
        obtain ⟨l, g1, rfl⟩ := hx
        obtain ⟨l', g1', g2⟩ := h.objs _ _ (hide_some hob).1
        rw [g1] at g1'; cases g1'
        exact DRel.map _ _ _ (inner_own h hc hob g1) g2
      · cases hd
end
end Go.DM
