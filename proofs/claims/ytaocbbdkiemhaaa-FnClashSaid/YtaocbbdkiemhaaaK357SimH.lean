/- clear; a slice under another name; what is handed to a call. -/
import Derived.Test.YtaocbbdkiemhaaaK357SimF
set_option linter.unusedSimpArgs false
set_option linter.unusedVariables false
namespace Go.DM
set_option linter.unusedSectionVars false
variable [Tok]
section
variable {P : Program} {X : Cx} {φ : Nat → Option Loc} {w : World} {σ : St} {a : Act}

theorem ren_sim {B : Nat} {M : List Reg} (h : Rel X B M φ σ a w) {o d off n es : Nat} {cs : List S} {u : Value} (hx : VRel X φ w (.a (.sl o off n es)) u) (hod : o ≠ d) (hob : σ.objs o = some (.flat false cs)) :
    ∃ φ', Does X σ { v := .a (.sl d off n es), kills := [o, d], puts := [(d, .flat false cs)] } φ φ' w w u := by
  obtain ⟨l, ad, cap, g1, rfl, g3, g4, g5⟩ := hx
  obtain ⟨l', g1', hobr⟩ := h.objs o _ hob
  rw [g1] at g1'; cases g1'
  obtain ⟨_, hlt, _⟩ := h.own o _ l hob g1
  refine ⟨upd φ d (some l), rfl, rfl, rfl, Nat.le_refl _, Shape.refl w, fun o' ho' => ?_, fun _ _ _ => rfl, fun o' ob' h1 => ?_, fun o1 o2 _ _ _ _ h1 h2 _ _ _ => ?_, ?_, fun o' ob' n' l' h1 h2 _ => ?_⟩
  · have : o' ≠ d := fun e => by subst e; simp at ho'
    simp [upd, this]
  · obtain ⟨rfl, rfl⟩ := lookP_one h1
    exact ⟨l, by simp [upd], hobr, hlt, .inr ⟨o, _, l, hob, g1, rfl, .inr ⟨by simp, rfl, rfl⟩⟩⟩
  · rw [(lookP_one h1).1, (lookP_one h2).1]
  · exact ⟨l, ad, cap, by simp [upd], rfl, g3, g4, g5⟩
  · obtain ⟨rfl, rfl⟩ := lookP_one h1
    cases h2

theorem clr_sim {B : Nat} {M : List Reg} (h : Rel X B M φ σ a w) {T ty e : TypeId} {o off n es : Nat} {zs cs : List S} {p : Bool} {u : Value} (he : sliceOf P T = some e) (hz : zeroIs P e zs = true) (hl : zs.length = es)
    (hx : VRel X φ w (.a (.sl o off n es)) u) (hob : σ.objs o = some (.flat p cs)) (hle : off + n * es ≤ cs.length) :
    ∃ w', (Builtin.clear_ #[T] ty #[u]).run P w = .ok (.tuple #[]) w' ∧
      Does X σ { v := .tup [], puts := [(o, .flat p (cs.take off ++ replicate n zs ++ cs.drop (off + n * es)))] } φ φ w w' (.tuple #[]) := by
  obtain ⟨l, ad, cap, g1, rfl, g3, g4, g5⟩ := hx
  obtain ⟨l', g1', hobr⟩ := h.objs o _ hob
  rw [g1] at g1'; cases g1'
  obtain ⟨hnI, hlt, hown⟩ := h.own o _ l hob g1
  clear hown
  obtain ⟨c, T0, fz, hblk, hcl, hrng⟩ := hobr
  obtain ⟨z, z1, z2, _⟩ := zeroIs_run hz
  have hu := sliceOf_eq he
  have hrl : (replicate n zs).length = n * es := by rw [replicate_length, hl]
  have hnew : (cs.take off ++ replicate n zs ++ cs.drop (off + n * es)).length = cs.length := by
    simp only [List.length_append, List.length_take, List.length_drop, hrl]; omega
  have hth : w.there l.1 (l.2 + off) (replicate n zs).length := blk_there hblk (by rw [hrl]; omega)
  refine ⟨w.setCells l.1 (l.2 + off) (encs (replicate n zs)), ?_, ?_⟩
  · by_cases h0 : n = 0
    · subst h0
      simp [Builtin.clear_, run_underlying hu, replicate, encs, World.setCells]
    · have had := g4 (by omega)
      subst had
      have hzc : Builtin.zeroCells z.cells n = (encs (replicate n zs)).toArray := by
        by_cases hz0 : zs.length = 0
        · have : zs = [] := List.eq_nil_of_length_eq_zero hz0
          subst this
          have e1 : z.cells = #[] := by rw [z2]; rfl
          have e2 : replicate n ([] : List S) = [] := by simp [replicate]
          rw [e1, e2]
          simp [Builtin.zeroCells, encs]
        · have := zeros_eq z2 n hz0
          rw [← this]
          simp [Builtin.zeroCells, z2, encs_length]
      have hst := run_storeCells_cells (P := P) l.1 (l.2 + off) (encs (replicate n zs)) 0 w (fun j hj => by simpa using (hth j (by simpa [encs] using hj)).1) (fun j hj => by simpa using (hth j (by simpa [encs] using hj)).2) oneCell_encs
      simp only [Nat.add_zero] at hst
      obtain ⟨n', rfl⟩ : ∃ n', n = n' + 1 := ⟨n - 1, by omega⟩
      simp [Builtin.clear_, run_underlying hu, z1 w, hzc, hst]
  · refine Does.write hob g1 hlt ?_ ?_ ?_ ⟨[], rfl, .nil⟩
    · obtain ⟨c', h1, h2⟩ := blk_keep hblk (setCells_shape l.1 (encs (replicate n zs)) (l.2 + off) w)
      refine ⟨c', T0, fz, h1, by rw [hnew]; omega, ?_⟩
      have := range_store hrng (by rw [hrl]; exact hle) hth
      rw [hrl] at this
      exact this
    · cases p with
      | true => simp only [parLen, hnew]
      | false => rfl
    · intro m hm
      rw [encs_length, hrl]
      cases p with
      | true => simp only [parLen, Option.some.injEq] at hm; omega
      | false => cases hm

theorem lenOf_slice {p : Option Addr} {m c : Nat} {w : World} : (Builtin.lenOf (.slice p m c)).run P w = .ok m w := by simp [Builtin.lenOf]
theorem cpy_sim {B : Nat} {M : List Reg} (h : Rel X B M φ σ a w) {T T' ty e : TypeId} {o off n es m : Nat} {ys cs : List S} {p : Bool} {y : V} {u v : Value} (he : sliceOf P T = some e) (hsz : sizeIs P e es = true) (h0 : es ≠ 0)
    (hns : ∀ s, y ≠ .a (.d (.s (.str s)))) (hx : VRel X φ w (.a (.sl o off n es)) u) (hy : VRel X φ w y v) (hel : elems σ.objs es y = some (m, ys)) (hob : σ.objs o = some (.flat p cs)) (hle : off + n * es ≤ cs.length) :
    ∃ w', (Builtin.copy_ #[T, T'] ty #[u, v]).run P w = .ok (.int .i64 (Nat.min m n : Nat)) w' ∧
      Does X σ { v := sv (.int .i64 (Nat.min m n : Nat)), puts := [(o, .flat p (cs.take off ++ ys.take (Nat.min m n * es) ++ cs.drop (off + Nat.min m n * es)))] } φ φ w w' (.int .i64 (Nat.min m n : Nat)) := by
  obtain ⟨hyl, hc⟩ := elems_sim h.base hy hel
  obtain ⟨l, ad, cap, g1, rfl, g3, g4, g5⟩ := hx
  obtain ⟨l', g1', hobr⟩ := h.objs o _ hob
  rw [g1] at g1'; cases g1'
  obtain ⟨hnI, hlt, hown⟩ := h.own o _ l hob g1
  clear hown
  obtain ⟨c, T0, fz, hblk, hcl, hrng⟩ := hobr
  have hu := sliceOf_eq he
  have hk : Nat.min m n ≤ m := Nat.min_le_left m n
  have hk2 : Nat.min m n ≤ n := Nat.min_le_right m n
  generalize hkk : Nat.min m n = k at hk hk2 ⊢
  have hmul : k * es ≤ m * es := Nat.mul_le_mul_right es hk
  have hmul2 : k * es ≤ n * es := Nat.mul_le_mul_right es hk2
  have hrl : (ys.take (k * es)).length = k * es := by rw [List.length_take]; omega
  have hnew : (cs.take off ++ ys.take (k * es) ++ cs.drop (off + k * es)).length = cs.length := by
    simp only [List.length_append, List.length_take, List.length_drop] at hrl ⊢; omega
  have hth : w.there l.1 (l.2 + off) (ys.take (k * es)).length := blk_there hblk (by rw [hrl]; omega)
  -- what is read
  have hv : ∃ q c', v = .slice q m c' ∧ (Builtin.firstCells es k v).run P w = .ok (encs (ys.take (k * es))).toArray w := by
    rcases hc with ⟨⟨pb, po, ps⟩, c', rfl, hp, hr, _⟩ | ⟨q, c', rfl, rfl, hm⟩ | ⟨s, rfl, _, _, _⟩
    · simp only at hp hr
      subst hp
      refine ⟨_, c', rfl, run_firstCells_some w es k _ m c' _ (by rw [encs_length, hrl]) fun j v hj => ?_⟩
      have hj1 : (encs ys)[j]? = some v := by
        simp only [encs, List.map_take, List.getElem?_take] at hj ⊢
        split at hj
        · exact hj
        · cases hj
      rw [Addr.add_mid, ← hr j v hj1]
    · obtain rfl : m = 0 := by
        rcases hm with h | h
        · exact h
        · exact (h0 h).elim
      obtain rfl : k = 0 := by omega
      refine ⟨q, c', rfl, ?_⟩
      have e0 : (encs (([] : List S).take (0 * es))).toArray = #[] := by simp [encs]
      rw [e0]
      cases q with
      | none => exact run_firstCells_none w es 0 0 c'
      | some q => exact run_firstCells_some w es 0 q 0 c' [] (by simp) (fun j v hv => by simp at hv)
    · exfalso
      obtain ⟨s', hs'⟩ : ∃ s', y = .a (.d (.s (.str s'))) := by
        cases y with
        | a z =>
          cases z with
          | d z =>
            have hy' : DRel _ _ _ _ _ := hy
            generalize hv : Value.string ⟨s.toArray⟩ = v at hy'
            cases hy' <;> first | (cases hv; done) | skip
            rename_i z
            cases z <;> simp [DM.enc] at hv
            exact ⟨_, rfl⟩
          | sl o' off' n' es' => obtain ⟨_, _, _, _, h5, _⟩ := hy; cases h5
          | _ => simp [elems] at hel
        | _ => simp [elems] at hel
      exact hns _ hs'
  obtain ⟨q, c', rfl, hfirst⟩ := hv
  refine ⟨w.setCells l.1 (l.2 + off) (encs (ys.take (k * es))), ?_, ?_⟩
  · have hsize := sizeIs_eq hsz
    have hst := run_storeCells_cells (P := P) l.1 (l.2 + off) (encs (ys.take (k * es))) 0 w (fun j hj => by simpa using (hth j (by simpa [encs] using hj)).1) (fun j hj => by simpa using (hth j (by simpa [encs] using hj)).2) oneCell_encs
    simp only [Nat.add_zero] at hst
    by_cases hk0 : cap = 0
    · obtain rfl : k = 0 := by omega
      have e0 : encs (ys.take (0 * es)) = [] := by simp [encs]
      rw [e0] at hfirst ⊢
      simp [Builtin.copy_, run_underlying hu, lenOf_slice, hkk, run_sizeOf' hsz, hfirst, storeCells, World.setCells]
      rfl
    · have had := g4 hk0
      subst had
      simp [Builtin.copy_, run_underlying hu, lenOf_slice, hkk, run_sizeOf' hsz, hfirst, hst]
      rfl
  · refine Does.write hob g1 hlt ?_ ?_ ?_ (.s _)
    · obtain ⟨c', h1, h2⟩ := blk_keep hblk (setCells_shape l.1 (encs (ys.take (k * es))) (l.2 + off) w)
      refine ⟨c', T0, fz, h1, by rw [hnew]; omega, ?_⟩
      have := range_store hrng (by rw [hrl]; omega) hth
      rw [hrl] at this
      exact this
    · cases p with
      | true => simp only [parLen, hnew]
      | false => rfl
    · intro m hm
      rw [encs_length, hrl]
      cases p with
      | true => simp only [parLen, Option.some.injEq] at hm; omega
      | false => cases hm

/-- What is handed to a call: the value; the region of which the call may write, if any. -/
def ArgRel (X : Cx) (w : World) : Arg → Value → Option Reg → Prop
  | .d x, v, none => DRel X.ρ X.I w x v
  | .mp cs, v, some m => v = .pointer (some ⟨m.1, m.2.1, none⟩) ∧ m.2.2 = cs.length ∧ w.rangeAt m.1 m.2.1 (encs cs) ∧ ∃ c T fz, Blk w m.1 c T fz ∧ m.2.1 + cs.length ≤ c.size
  | .ms n es cs, v, some m => ∃ ad cap, v = .slice (some ⟨m.1, ad, none⟩) n cap ∧ n ≤ cap ∧ (cap ≠ 0 → ad = m.2.1) ∧ Room w m.1 (m.2.1 + cap * es) ∧ m.2.2 = cs.length ∧ cs.length = n * es ∧
      w.rangeAt m.1 m.2.1 (encs cs) ∧ ∃ c T fz, Blk w m.1 c T fz ∧ m.2.1 + cs.length ≤ c.size
  | _, _, _ => False

def inner (ρ : Nat → Nat) (w : World) (M : List Reg) : Cx := { ρ := ρ, I := fun b => b < w.heap.size ∧ ∀ m ∈ M, m.1 ≠ b }

def some? {α : Type} (l : List (Option α)) : List α := l.filterMap id

/-- The arguments of a call, and what it may write. -/
structure ArgsRel (ρ : Nat → Nat) (w : World) (as : List Arg) (vs : List Value) (rs : List (Option Reg)) : Prop where
  len : as.length = vs.length
  len' : as.length = rs.length
  each : ∀ (i : Nat) (x : Arg) (v : Value) (r : Option Reg), as[i]? = some x → vs[i]? = some v → rs[i]? = some r → ArgRel (inner ρ w (some? rs)) w x v r
  apart : Apart (some? rs) w
  nodup : ∀ (i j : Nat) (m m' : Reg), rs[i]? = some (some m) → rs[j]? = some (some m') → m.1 = m'.1 → i = j

/-- What comes back; a new block, if any. -/
def RetRel (w0 w : World) (rs : List (Option Reg)) : Ret → Value → Option Nat → Prop
  | .s x, v, none => v = enc x
  | .agg cs, v, none => v = .agg (encs cs).toArray
  | .own n es cs, v, some b => ∃ base ad cap, v = .slice (some ⟨b, ad, none⟩) n cap ∧ w0.heap.size ≤ b ∧ b < w.heap.size ∧ n ≤ cap ∧ (cap ≠ 0 → ad = base) ∧ Room w b (base + cap * es) ∧ ObRel ⟨id, fun _ => False, Kn.none⟩ (fun _ => none) w (.flat false cs) (b, base)
  | .ownp cs, v, some b => ∃ base, v = .pointer (some ⟨b, base, none⟩) ∧ w0.heap.size ≤ b ∧ b < w.heap.size ∧ ObRel ⟨id, fun _ => False, Kn.none⟩ (fun _ => none) w (.flat false cs) (b, base)
  | .par i off n es, v, none => ∃ m ad cap, rs[i]? = some (some m) ∧ v = .slice (some ⟨m.1, ad, none⟩) n cap ∧ n ≤ cap ∧ (cap ≠ 0 → ad = m.2.1 + off) ∧ Room w m.1 (m.2.1 + off + cap * es)
  | _, _, _ => False

def packed (vs : List Value) : Value := match vs with | [v] => v | vs => .tuple vs.toArray

structure ResRel (w0 w : World) (rs : List (Option Reg)) (r : Res) (v : Value) : Prop where
  left : Left (some? rs) w0 w
  rets : ∃ (vs : List Value) (bs : List (Option Nat)), v = packed vs ∧ r.rets.length = vs.length ∧ r.rets.length = bs.length ∧
    (∀ (i : Nat) (x : Ret) (u : Value) (b : Option Nat), r.rets[i]? = some x → vs[i]? = some u → bs[i]? = some b → RetRel w0 w rs x u b) ∧
    (∀ (i j b : Nat), bs[i]? = some (some b) → bs[j]? = some (some b) → i = j)
  outs : All2 (fun (m : Reg) (cs : List S) => cs.length = m.2.2 ∧ w.rangeAt m.1 m.2.1 (encs cs)) (some? rs) r.outs

/-- Each call of which the small machine tells what it gives does so. -/
def Sound (P : Program) (ρ : Nat → Nat) (κ : Kn) (call : Calls) : Prop :=
  ∀ (f : Nat) (as : List Arg) (r : Res), call f as = some r → ∀ (w : World) (vs : List Value) (rs : List (Option Reg)), ArgsRel ρ w as vs rs → κ.Ks w → κ.n0 ≤ w.heap.size → (∀ m ∈ some? rs, κ.n0 ≤ m.1) →
    Go.Calls P (ρ f) vs.toArray w fun e w' => ∃ v, e = .returned v ∧ ResRel w w' rs r v
end
end Go.DM

/- A call: what is handed over, what comes back. -/
set_option linter.unusedSimpArgs false
set_option linter.unusedVariables false
namespace Go.DM
set_option linter.unusedSectionVars false
variable [Tok]
section
variable {P : Program} {X : Cx} {φ : Nat → Option Loc} {w : World} {σ : St} {a : Act}

def hide (ids : List Nat) (objs : Nat → Option Ob) : Nat → Option Ob := fun o => if ids.contains o then none else objs o

theorem hide_some {ids : List Nat} {objs : Nat → Option Ob} {o : Nat} {ob : Ob} (h : hide ids objs o = some ob) : objs o = some ob ∧ ids.contains o = false := by
  unfold hide at h
  split at h
  · cases h
  · rename_i hc; exact ⟨h, by simpa using hc⟩

/-- The regions lie in the blocks of these objects. -/
def Covers (φ : Nat → Option Loc) (σ : St) (ids : List Nat) (Mt : List Reg) : Prop := ∀ m ∈ Mt, ∃ o ob l, ids.contains o = true ∧ σ.objs o = some ob ∧ φ o = some l ∧ l.1 = m.1

theorem inner_own {B : Nat} {M Mt : List Reg} (h : Rel X B M φ σ a w) {ids : List Nat} (hc : Covers φ σ ids Mt) {o : Nat} {ob : Ob} {l : Loc} (hob : hide ids σ.objs o = some ob) (hφ : φ o = some l) : (inner X.ρ w Mt).I l.1 := by
  obtain ⟨h1, h2⟩ := hide_some hob
  refine ⟨(h.own o ob l h1 hφ).2.1, fun m hm e => ?_⟩
  obtain ⟨o', ob', l', g1, g2, g3, g4⟩ := hc m hm
  have := h.inj o' o ob' ob l' l g2 h1 g3 hφ (g4.trans e)
  subst this
  rw [g1] at h2; cases h2

theorem inner_data {B : Nat} {M Mt : List Reg} (h : Rel X B M φ σ a w) {ids : List Nat} (hc : Covers φ σ ids Mt) {b : Nat} (hb : X.I b) : (inner X.ρ w Mt).I b := by
  refine ⟨h.lt b hb, fun m hm e => ?_⟩
  obtain ⟨o', ob', l', g1, g2, g3, g4⟩ := hc m hm
  exact (h.own o' ob' l' g2 g3).1 (by rw [g4, e]; exact hb)

theorem drop_range {b o : Nat} {cs : List S} (h : w.rangeAt b o (encs cs)) (off : Nat) : w.rangeAt b (o + off) (encs (cs.drop off)) := fun j v hv => by
  have : (encs cs)[off + j]? = some v := by
    simp only [encs, List.map_drop, List.getElem?_drop] at hv ⊢
    exact hv
  have := h _ v this
  rwa [show o + (off + j) = o + off + j by omega] at this

theorem all?_sim {α β γ : Type} {f : α → Option β} {R : α → γ → Prop} {R' : β → γ → Prop} (hf : ∀ x y v, f x = some y → R x v → R' y v) : ∀ {xs : List α} {ys : List β} {vs : List γ}, all? f xs = some ys → All2 R xs vs → All2 R' ys vs
  | [], ys, vs, h, hr => by cases h; rw [hr.nil_left]; exact .nil
  | x :: xs, ys, vs, h, hr => by
    obtain ⟨v, vs', rfl, h1, h2⟩ := hr.head
    simp only [all?] at h
    rw [Option.bind_eq_some_iff] at h
    obtain ⟨y, hy, h⟩ := h
    rw [Option.map_eq_some_iff] at h
    obtain ⟨ys', hys, rfl⟩ := h
    exact .cons (hf x y v hy h1) (all?_sim hf hys h2)

theorem toD_sim {B : Nat} {M Mt : List Reg} (h : Rel X B M φ σ a w) {ids : List Nat} (hc : Covers φ σ ids Mt) : ∀ (n : Nat),
    (∀ (x : A) (d : D) (u : Value), toDA (hide ids σ.objs) (toDV (hide ids σ.objs) n) x = some d → ARel X φ w x u → DRel X.ρ (inner X.ρ w Mt).I w d u) ∧
    (∀ (x : V) (d : D) (u : Value), toDV (hide ids σ.objs) n x = some d → VRel X φ w x u → DRel X.ρ (inner X.ρ w Mt).I w d u)
  | 0 => by
    refine ⟨?_, fun x d u hd => by simp [toDV] at hd⟩
    intro x d u hd hx
    unfold toDA at hd
    split at hd
    · cases hd
      exact DRel.mono (fun b hb => ⟨inner_data h hc hb, rfl⟩) hx
    · obtain ⟨l, g1, rfl⟩ := hx
      split at hd
      · rename_i hob
        cases hd
        obtain ⟨l', g1', g2⟩ := h.objs _ _ (hide_some hob).1
        rw [g1] at g1'; cases g1'
        exact DRel.ref _ _ _ (inner_own h hc hob g1) (drop_range (flat_range g2) _)
      · simp [toDV] at hd
      · cases hd
    · rename_i o off len es
      obtain ⟨l, ad, cap, g1, rfl, g3, g4, g5⟩ := hx
      split at hd
      · rename_i hob
        split at hd
        · rename_i hle
          cases hd
          obtain ⟨l', g1', g2⟩ := h.objs _ _ (hide_some hob).1
          rw [g1] at g1'; cases g1'
          by_cases h0 : cap = 0
          · obtain rfl : len = 0 := by omega
            exact DRel.sl0 _ _ _ _ (by simp)
          · rw [g4 h0]
            exact DRel.sl _ _ _ _ _ _ (inner_own h hc hob g1) g3 (by rw [List.length_take, List.length_drop]; omega) (rangeAt_sub (flat_range g2) off (len * es))
        · cases hd
      · rename_i xs hob
        split at hd
        · rename_i hc'
          obtain ⟨rfl, rfl, hlen⟩ := hc'
          cases xs with
          | nil =>
            simp only [List.length_nil] at hlen
            subst hlen
            cases hd
            exact DRel.sld0 _ _
          | cons x xs => simp [all?, toDV] at hd
        · cases hd
      · cases hd
    · obtain ⟨b, o, g1, rfl, g2⟩ := hx
      cases hd
      exact DRel.ref _ _ _ (inner_data h hc g1) (drop_range g2 _)
    · cases hd
    · cases hd
    · rename_i o
      split at hd
      · rename_i hob
        cases hd
        obtain ⟨l, g1, rfl⟩ := hx
        obtain ⟨l', g1', g2⟩ := h.objs _ _ (hide_some hob).1
        rw [g1] at g1'; cases g1'
        exact DRel.map _ _ _ (inner_own h hc hob g1) g2
      · cases hd
  | n + 1 => by
    obtain ⟨ihA, ihV⟩ := toD_sim h hc n
    have hA : ∀ (x : A) (d : D) (u : Value), toDA (hide ids σ.objs) (toDV (hide ids σ.objs) n) x = some d → ARel X φ w x u → DRel X.ρ (inner X.ρ w Mt).I w d u := ihA
    have hV : ∀ (x : V) (d : D) (u : Value), toDV (hide ids σ.objs) (n + 1) x = some d → VRel X φ w x u → DRel X.ρ (inner X.ρ w Mt).I w d u := by
      intro x d u hd hx
      unfold toDV at hd
      split at hd
      · rename_i heq; cases heq
      · rename_i heq
        cases heq
        exact hA _ _ _ hd hx
      · rename_i f p q heq
        cases heq
        rw [Option.bind_eq_some_iff] at hd
        obtain ⟨p', h1, hd⟩ := hd
        rw [Option.map_eq_some_iff] at hd
        obtain ⟨q', h2, rfl⟩ := hd
        obtain ⟨ps, qs, rfl, g1, g2⟩ := hx
        have k1 := all?_sim (R' := DRel X.ρ (inner X.ρ w Mt).I w) (fun x y v hy hr => hA x y v hy hr) h1 g1
        have k2 := all?_sim (R' := DRel X.ρ (inner X.ρ w Mt).I w) (fun x y v hy hr => hA x y v hy hr) h2 g2
        exact DRel.clo _ _ _ _ _ k1.1 k2.1 k1.2 k2.2
      · cases hd
    refine ⟨?_, hV⟩
    intro x d u hd hx
    unfold toDA at hd
    split at hd
    · cases hd
      exact DRel.mono (fun b hb => ⟨inner_data h hc hb, rfl⟩) hx
    · obtain ⟨l, g1, rfl⟩ := hx
      split at hd
      · rename_i hob
        cases hd
        obtain ⟨l', g1', g2⟩ := h.objs _ _ (hide_some hob).1
        rw [g1] at g1'; cases g1'
        exact DRel.ref _ _ _ (inner_own h hc hob g1) (drop_range (flat_range g2) _)
      · rename_i hob
        split at hd
        · rename_i h0
          subst h0
          rw [Option.map_eq_some_iff] at hd
          obtain ⟨d', h1, rfl⟩ := hd
          obtain ⟨l', g1', c, T, fz, v, k1, k2, _, k4⟩ := h.objs _ _ (hide_some hob).1
          rw [g1] at g1'; cases g1'
          exact DRel.refd _ _ _ v (inner_own h hc hob g1) (by simp [World.cell?, k1.1, k2]) (hV _ _ _ h1 k4)
        · cases hd
      · cases hd
    · rename_i o off len es
      obtain ⟨l, ad, cap, g1, rfl, g3, g4, g5⟩ := hx
      split at hd
      · rename_i hob
        split at hd
        · rename_i hle
          cases hd
          obtain ⟨l', g1', g2⟩ := h.objs _ _ (hide_some hob).1
          rw [g1] at g1'; cases g1'
          by_cases h0 : cap = 0
          · obtain rfl : len = 0 := by omega
            exact DRel.sl0 _ _ _ _ (by simp)
          · rw [g4 h0]
            exact DRel.sl _ _ _ _ _ _ (inner_own h hc hob g1) g3 (by rw [List.length_take, List.length_drop]; omega) (rangeAt_sub (flat_range g2) off (len * es))
        · cases hd
      · rename_i xs hob
        split at hd
        · rename_i hc'
          obtain ⟨rfl, rfl, hlen⟩ := hc'
          rw [Option.map_eq_some_iff] at hd
          obtain ⟨ds, hds, rfl⟩ := hd
          obtain ⟨l', g1', c, T, fz, vs, k1, k2, k3, k4⟩ := h.objs _ _ (hide_some hob).1
          rw [g1] at g1'; cases g1'
          have k5 := all?_sim (R' := DRel X.ρ (inner X.ρ w Mt).I w) (fun x y v hy hr => hV (.a x) y v hy hr) hds k4
          have hdl : ds.length = xs.length := by rw [k5.1, k4.1]
          by_cases h0 : cap = 0
          · obtain rfl : len = 0 := by omega
            have : ds = [] := List.eq_nil_of_length_eq_zero (by omega)
            subst this
            exact DRel.sld0 _ _
          · rw [g4 h0, Nat.add_zero]
            exact DRel.sld ds len _ _ _ vs (inner_own h hc hob g1) g3 (by omega) k5.1 k3 k5.2
        · cases hd
      · cases hd
    · obtain ⟨b, o, g1, rfl, g2⟩ := hx
      cases hd
      exact DRel.ref _ _ _ (inner_data h hc g1) (drop_range g2 _)
    · cases hd
    · cases hd
    · rename_i o
      split at hd
      · rename_i hob
        cases hd
        obtain ⟨l, g1, rfl⟩ := hx
        obtain ⟨l', g1', g2⟩ := h.objs _ _ (hide_some hob).1
        rw [g1] at g1'; cases g1'
        exact DRel.map _ _ _ (inner_own h hc hob g1) g2
      · cases hd
end
end Go.DM
