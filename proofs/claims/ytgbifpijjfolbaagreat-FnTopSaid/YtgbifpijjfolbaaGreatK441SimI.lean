/- clear; a slice under another name; what is handed to a call. -/
import Derived.Test.YtgbifpijjfolbaaGreatK441SimF
set_option linter.all false
namespace Go.DM
variable [Tok]
section
variable {P : Program} {X : Cx} {φ : Nat → Option Loc} {w : World} {σ : St} {a : Act}
theorem ren_sim {B : Nat} {M : List Reg} (h : Rel X B M φ σ a w) {o d off n es : Nat} {cs : List S} {u : Value} (hx : VRel X φ w (.a (.sl o off n es)) u) (hod : o ≠ d) (hob : σ.objs o = some (.flat false cs)) :
    ∃ φ', Does X σ { v := .a (.sl d off n es), kills := [o, d], puts := [(d, .flat false cs)] } φ φ' w w u := by
  obtain ⟨l, ad, cap, g1, rfl, g3, g4, g5⟩ := hx
  obtain ⟨l', g1', hobr⟩ := h.objs o _ hob
  rw [g1] at g1'; cases g1'
  obtain ⟨_, hlt, _⟩ := h.own o _ l hob g1
  refine ⟨upd φ d (some l), rfl, rfl, rfl, Nat.le_refl _, Shape.refl w, fun o' ho' => ?_, fun _ _ _ => rfl, fun o' ob' h1 => ?_, fun o1 o2 _ _ _ _ h1 h2 _ _ _ => ?_, ?_, fun o' ob' n' l' h1 h2 _ => ?_⟩
  · have : o' ≠ d := fun e => by subst e; simp at ho'
    simp [upd, this]
  · obtain ⟨rfl, rfl⟩ := lookP_one h1
    exact ⟨l, by simp [upd], hobr, hlt, .inr ⟨o, _, l, hob, g1, rfl, .inr ⟨by simp, rfl, rfl⟩⟩⟩
  · rw [(lookP_one h1).1, (lookP_one h2).1]
  · exact ⟨l, ad, cap, by simp [upd], rfl, g3, g4, g5⟩
  · obtain ⟨rfl, rfl⟩ := lookP_one h1
    cases h2
theorem clr_sim {B : Nat} {M : List Reg} (h : Rel X B M φ σ a w) {T ty e : TypeId} {o off n es : Nat} {zs cs : List S} {p : Bool} {u : Value} (he : sliceOf P T = some e) (hz : zeroIs P e zs = true) (hl : zs.length = es)
    (hx : VRel X φ w (.a (.sl o off n es)) u) (hob : σ.objs o = some (.flat p cs)) (hle : off + n * es ≤ cs.length) :
    ∃ w', (Builtin.clear_ #[T] ty #[u]).run P w = .ok (.tuple #[]) w' ∧
      Does X σ { v := .tup [], puts := [(o, .flat p (cs.take off ++ replicate n zs ++ cs.drop (off + n * es)))] } φ φ w w' (.tuple #[]) := by
  obtain ⟨l, ad, cap, g1, rfl, g3, g4, g5⟩ := hx
  obtain ⟨l', g1', hobr⟩ := h.objs o _ hob
  rw [g1] at g1'; cases g1'
  obtain ⟨hnI, hlt, hown⟩ := h.own o _ l hob g1
  clear hown
  obtain ⟨c, T0, fz, hblk, hcl, hrng⟩ := hobr
  obtain ⟨z, z1, z2, _⟩ := zeroIs_run hz
  have hu := sliceOf_eq he
  have hrl : (replicate n zs).length = n * es := by rw [replicate_length, hl]
  have hnew : (cs.take off ++ replicate n zs ++ cs.drop (off + n * es)).length = cs.length := by
    simp only [List.length_append, List.length_take, List.length_drop, hrl]; omega
  have hth : w.there l.1 (l.2 + off) (replicate n zs).length := blk_there hblk (by rw [hrl]; omega)
  refine ⟨w.setCells l.1 (l.2 + off) (encs (replicate n zs)), ?_, ?_⟩
  · by_cases h0 : n = 0
    · subst h0
      simp [Builtin.clear_, run_underlying hu, replicate, encs, World.setCells]
    · have had := g4 (by omega)
      subst had
      have hzc : Builtin.zeroCells z.cells n = (encs (replicate n zs)).toArray := by
        by_cases hz0 : zs.length = 0
        · have : zs = [] := List.eq_nil_of_length_eq_zero hz0
          subst this
          have e1 : z.cells = #[] := by rw [z2]; rfl
          have e2 : replicate n ([] : List S) = [] := by simp [replicate]
          rw [e1, e2]
          simp [Builtin.zeroCells, encs]
        · have := zeros_eq z2 n hz0
          rw [← this]
          simp [Builtin.zeroCells, z2, encs_length]
      have hst := run_storeCells_cells (P := P) l.1 (l.2 + off) (encs (replicate n zs)) 0 w (fun j hj => by simpa using (hth j (by simpa [encs] using hj)).1) (fun j hj => by simpa using (hth j (by simpa [encs] using hj)).2) oneCell_encs
      simp only [Nat.add_zero] at hst
      obtain ⟨n', rfl⟩ : ∃ n', n = n' + 1 := ⟨n - 1, by omega⟩
      simp [Builtin.clear_, run_underlying hu, z1 w, hzc, hst]
  · refine Does.write hob g1 hlt ?_ ?_ ?_ ⟨[], rfl, .nil⟩
    · obtain ⟨c', h1, h2⟩ := blk_keep hblk (setCells_shape l.1 (encs (replicate n zs)) (l.2 + off) w)
      refine ⟨c', T0, fz, h1, by rw [hnew]; omega, ?_⟩
      have := range_store hrng (by rw [hrl]; exact hle) hth
      rw [hrl] at this
      exact this
    · cases p with
      | true => simp only [parLen, hnew]
      | false => rfl
    · intro m hm
      rw [encs_length, hrl]
      cases p with
      | true => simp only [parLen, Option.some.injEq] at hm; omega
      | false => cases hm
theorem lenOf_slice {p : Option Addr} {m c : Nat} {w : World} : (Builtin.lenOf (.slice p m c)).run P w = .ok m w := by simp [Builtin.lenOf]
theorem cpy_sim {B : Nat} {M : List Reg} (h : Rel X B M φ σ a w) {T T' ty e : TypeId} {o off n es m : Nat} {ys cs : List S} {p : Bool} {y : V} {u v : Value} (he : sliceOf P T = some e) (hsz : sizeIs P e es = true) (h0 : es ≠ 0)
    (hns : ∀ s, y ≠ .a (.d (.s (.str s)))) (hx : VRel X φ w (.a (.sl o off n es)) u) (hy : VRel X φ w y v) (hel : elems σ.objs es y = some (m, ys)) (hob : σ.objs o = some (.flat p cs)) (hle : off + n * es ≤ cs.length) :
    ∃ w', (Builtin.copy_ #[T, T'] ty #[u, v]).run P w = .ok (.int .i64 (Nat.min m n : Nat)) w' ∧
      Does X σ { v := sv (.int .i64 (Nat.min m n : Nat)), puts := [(o, .flat p (cs.take off ++ ys.take (Nat.min m n * es) ++ cs.drop (off + Nat.min m n * es)))] } φ φ w w' (.int .i64 (Nat.min m n : Nat)) := by
  obtain ⟨hyl, hc⟩ := elems_sim h.base hy hel
  obtain ⟨l, ad, cap, g1, rfl, g3, g4, g5⟩ := hx
  obtain ⟨l', g1', hobr⟩ := h.objs o _ hob
  rw [g1] at g1'; cases g1'
  obtain ⟨hnI, hlt, hown⟩ := h.own o _ l hob g1
  clear hown
  obtain ⟨c, T0, fz, hblk, hcl, hrng⟩ := hobr
  have hu := sliceOf_eq he
  have hk : Nat.min m n ≤ m := Nat.min_le_left m n
  have hk2 : Nat.min m n ≤ n := Nat.min_le_right m n
  generalize hkk : Nat.min m n = k at hk hk2 ⊢
  have hmul : k * es ≤ m * es := Nat.mul_le_mul_right es hk
  have hmul2 : k * es ≤ n * es := Nat.mul_le_mul_right es hk2
  have hrl : (ys.take (k * es)).length = k * es := by rw [List.length_take]; omega
  have hnew : (cs.take off ++ ys.take (k * es) ++ cs.drop (off + k * es)).length = cs.length := by
    simp only [List.length_append, List.length_take, List.length_drop] at hrl ⊢; omega
  have hth : w.there l.1 (l.2 + off) (ys.take (k * es)).length := blk_there hblk (by rw [hrl]; omega)
  -- what is read
  have hv : ∃ q c', v = .slice q m c' ∧ (Builtin.firstCells es k v).run P w = .ok (encs (ys.take (k * es))).toArray w := by
    rcases hc with ⟨⟨pb, po, ps⟩, c', rfl, hp, hr, _⟩ | ⟨q, c', rfl, rfl, hm⟩ | ⟨s, rfl, _, _, _⟩
    · simp only at hp hr
      subst hp
      refine ⟨_, c', rfl, run_firstCells_some w es k _ m c' _ (by rw [encs_length, hrl]) fun j v hj => ?_⟩
      have hj1 : (encs ys)[j]? = some v := by
        simp only [encs, List.map_take, List.getElem?_take] at hj ⊢
        split at hj
        · exact hj
        · cases hj
      rw [Addr.add_mid, ← hr j v hj1]
    · obtain rfl : m = 0 := by
        rcases hm with h | h
        · exact h
        · exact (h0 h).elim
      obtain rfl : k = 0 := by omega
      refine ⟨q, c', rfl, ?_⟩
      have e0 : (encs (([] : List S).take (0 * es))).toArray = #[] := by simp [encs]
      rw [e0]
      cases q with
      | none => exact run_firstCells_none w es 0 0 c'
      | some q => exact run_firstCells_some w es 0 q 0 c' [] (by simp) (fun j v hv => by simp at hv)
    · exfalso
      obtain ⟨s', hs'⟩ : ∃ s', y = .a (.d (.s (.str s'))) := by
        cases y with
        | a z =>
          cases z with
          | d z =>
            have hy' : DRel _ _ _ _ _ := hy
            generalize hv : Value.string ⟨s.toArray⟩ = v at hy'
            cases hy' <;> first | (cases hv; done) | skip
            rename_i z
            cases z <;> simp [DM.enc] at hv
            exact ⟨_, rfl⟩
          | sl o' off' n' es' => obtain ⟨_, _, _, _, h5, _⟩ := hy; cases h5
          | _ => simp [elems] at hel
        | _ => simp [elems] at hel
      exact hns _ hs'
  obtain ⟨q, c', rfl, hfirst⟩ := hv
  refine ⟨w.setCells l.1 (l.2 + off) (encs (ys.take (k * es))), ?_, ?_⟩
  · have hsize := sizeIs_eq hsz
    have hst := run_storeCells_cells (P := P) l.1 (l.2 + off) (encs (ys.take (k * es))) 0 w (fun j hj => by simpa using (hth j (by simpa [encs] using hj)).1) (fun j hj => by simpa using (hth j (by simpa [encs] using hj)).2) oneCell_encs
    simp only [Nat.add_zero] at hst
    by_cases hk0 : cap = 0
    · obtain rfl : k = 0 := by omega
      have e0 : encs (ys.take (0 * es)) = [] := by simp [encs]
      rw [e0] at hfirst ⊢
      simp [Builtin.copy_, run_underlying hu, lenOf_slice, hkk, run_sizeOf' hsz, hfirst, storeCells, World.setCells]
      rfl
    · have had := g4 hk0
      subst had
      simp [Builtin.copy_, run_underlying hu, lenOf_slice, hkk, run_sizeOf' hsz, hfirst, hst]
      rfl
  · refine Does.write hob g1 hlt ?_ ?_ ?_ (.s _)
    · obtain ⟨c', h1, h2⟩ := blk_keep hblk (setCells_shape l.1 (encs (ys.take (k * es))) (l.2 + off) w)
      refine ⟨c', T0, fz, h1, by rw [hnew]; omega, ?_⟩
      have := range_store hrng (by rw [hrl]; omega) hth
      rw [hrl] at this
      exact this
    · cases p with
      | true => simp only [parLen, hnew]
      | false => rfl
    · intro m hm
      rw [encs_length, hrl]
      cases p with
      | true => simp only [parLen, Option.some.injEq] at hm; omega
      | false => cases hm
def ArgRel (X : Cx) (w : World) : Arg → Value → Option Reg → Prop
  | .d x, v, none => DRel X.ρ X.I w x v
  | .mp cs, v, some m => v = .pointer (some ⟨m.1, m.2.1, none⟩) ∧ m.2.2 = cs.length ∧ w.rangeAt m.1 m.2.1 (encs cs) ∧ ∃ c T fz, Blk w m.1 c T fz ∧ m.2.1 + cs.length ≤ c.size
  | .ms n es cs, v, some m => ∃ ad cap, v = .slice (some ⟨m.1, ad, none⟩) n cap ∧ n ≤ cap ∧ (cap ≠ 0 → ad = m.2.1) ∧ Room w m.1 (m.2.1 + cap * es) ∧ m.2.2 = cs.length ∧ cs.length = n * es ∧
      w.rangeAt m.1 m.2.1 (encs cs) ∧ ∃ c T fz, Blk w m.1 c T fz ∧ m.2.1 + cs.length ≤ c.size
  | _, _, _ => False
def inner (ρ : Nat → Nat) (w : World) (M : List Reg) : Cx := { ρ := ρ, I := fun b => b < w.heap.size ∧ ∀ m ∈ M, m.1 ≠ b }
def some? {α : Type} (l : List (Option α)) : List α := l.filterMap id
structure ArgsRel (ρ : Nat → Nat) (w : World) (as : List Arg) (vs : List Value) (rs : List (Option Reg)) : Prop where
  len : as.length = vs.length
  len' : as.length = rs.length
  each : ∀ (i : Nat) (x : Arg) (v : Value) (r : Option Reg), as[i]? = some x → vs[i]? = some v → rs[i]? = some r → ArgRel (inner ρ w (some? rs)) w x v r
  apart : Apart (some? rs) w
  nodup : ∀ (i j : Nat) (m m' : Reg), rs[i]? = some (some m) → rs[j]? = some (some m') → m.1 = m'.1 → i = j
def RetRel (w0 w : World) (rs : List (Option Reg)) : Ret → Value → Option Nat → Prop
  | .s x, v, none => v = enc x
  | .agg cs, v, none => v = .agg (encs cs).toArray
  | .own n es cs, v, some b => ∃ base ad cap, v = .slice (some ⟨b, ad, none⟩) n cap ∧ w0.heap.size ≤ b ∧ b < w.heap.size ∧ n ≤ cap ∧ (cap ≠ 0 → ad = base) ∧ Room w b (base + cap * es) ∧ ObRel ⟨id, fun _ => False, Kn.none⟩ (fun _ => none) w (.flat false cs) (b, base)
  | .ownp cs, v, some b => ∃ base, v = .pointer (some ⟨b, base, none⟩) ∧ w0.heap.size ≤ b ∧ b < w.heap.size ∧ ObRel ⟨id, fun _ => False, Kn.none⟩ (fun _ => none) w (.flat false cs) (b, base)
  | .ownm ks es, v, some b => v = .map (some b) ∧ w0.heap.size ≤ b ∧ b < w.heap.size ∧ mapAt w b ks es
  | .par i off n es, v, none => ∃ m ad cap, rs[i]? = some (some m) ∧ v = .slice (some ⟨m.1, ad, none⟩) n cap ∧ n ≤ cap ∧ (cap ≠ 0 → ad = m.2.1 + off) ∧ Room w m.1 (m.2.1 + off + cap * es)
  | _, _, _ => False
def packed (vs : List Value) : Value := match vs with | [v] => v | vs => .tuple vs.toArray
structure ResRel (w0 w : World) (rs : List (Option Reg)) (r : Res) (v : Value) : Prop where
  left : Left (some? rs) w0 w
  rets : ∃ (vs : List Value) (bs : List (Option Nat)), v = packed vs ∧ r.rets.length = vs.length ∧ r.rets.length = bs.length ∧
    (∀ (i : Nat) (x : Ret) (u : Value) (b : Option Nat), r.rets[i]? = some x → vs[i]? = some u → bs[i]? = some b → RetRel w0 w rs x u b) ∧
    (∀ (i j b : Nat), bs[i]? = some (some b) → bs[j]? = some (some b) → i = j)
  outs : All2 (fun (m : Reg) (cs : List S) => cs.length = m.2.2 ∧ w.rangeAt m.1 m.2.1 (encs cs)) (some? rs) r.outs
def Sound (P : Program) (ρ : Nat → Nat) (κ : Kn) (call : Calls) : Prop :=
  ∀ (f : Nat) (as : List Arg) (r : Res), call f as = some r → ∀ (w : World) (vs : List Value) (rs : List (Option Reg)), ArgsRel ρ w as vs rs → κ.Ks w → κ.n0 ≤ w.heap.size → (∀ m ∈ some? rs, κ.n0 ≤ m.1) →
    Go.Calls P (ρ f) vs.toArray w fun e w' => ∃ v, e = .returned v ∧ ResRel w w' rs r v
end
end Go.DM

/- A call: what is handed over, what comes back. -/
namespace Go.DM
variable [Tok]
section
variable {P : Program} {X : Cx} {φ : Nat → Option Loc} {w : World} {σ : St} {a : Act}
def hide (ids : List Nat) (objs : Nat → Option Ob) : Nat → Option Ob := fun o => if ids.contains o then none else objs o
theorem hide_some {ids : List Nat} {objs : Nat → Option Ob} {o : Nat} {ob : Ob} (h : hide ids objs o = some ob) : objs o = some ob ∧ ids.contains o = false := by
  unfold hide at h
  split at h
  · cases h
  · rename_i hc; exact ⟨h, by simpa using hc⟩
def Covers (φ : Nat → Option Loc) (σ : St) (ids : List Nat) (Mt : List Reg) : Prop := ∀ m ∈ Mt, ∃ o ob l, ids.contains o = true ∧ σ.objs o = some ob ∧ φ o = some l ∧ l.1 = m.1
theorem inner_own {B : Nat} {M Mt : List Reg} (h : Rel X B M φ σ a w) {ids : List Nat} (hc : Covers φ σ ids Mt) {o : Nat} {ob : Ob} {l : Loc} (hob : hide ids σ.objs o = some ob) (hφ : φ o = some l) : (inner X.ρ w Mt).I l.1 := by
  obtain ⟨h1, h2⟩ := hide_some hob
  refine ⟨(h.own o ob l h1 hφ).2.1, fun m hm e => ?_⟩
  obtain ⟨o', ob', l', g1, g2, g3, g4⟩ := hc m hm
  have := h.inj o' o ob' ob l' l g2 h1 g3 hφ (g4.trans e)
  subst this
  rw [g1] at h2; cases h2
theorem inner_data {B : Nat} {M Mt : List Reg} (h : Rel X B M φ σ a w) {ids : List Nat} (hc : Covers φ σ ids Mt) {b : Nat} (hb : X.I b) : (inner X.ρ w Mt).I b := by
  refine ⟨h.lt b hb, fun m hm e => ?_⟩
  obtain ⟨o', ob', l', g1, g2, g3, g4⟩ := hc m hm
  exact (h.own o' ob' l' g2 g3).1 (by rw [g4, e]; exact hb)
theorem drop_range {b o : Nat} {cs : List S} (h : w.rangeAt b o (encs cs)) (off : Nat) : w.rangeAt b (o + off) (encs (cs.drop off)) := fun j v hv => by
  have : (encs cs)[off + j]? = some v := by
    simp only [encs, List.map_drop, List.getElem?_drop] at hv ⊢
    exact hv
  have := h _ v this
  rwa [show o + (off + j) = o + off + j by omega] at this
theorem all?_sim {α β γ : Type} {f : α → Option β} {R : α → γ → Prop} {R' : β → γ → Prop} (hf : ∀ x y v, f x = some y → R x v → R' y v) : ∀ {xs : List α} {ys : List β} {vs : List γ}, all? f xs = some ys → All2 R xs vs → All2 R' ys vs
  | [], ys, vs, h, hr => by cases h; rw [hr.nil_left]; exact .nil
  | x :: xs, ys, vs, h, hr => by
    obtain ⟨v, vs', rfl, h1, h2⟩ := hr.head
    simp only [all?] at h
    rw [obs] at h
    obtain ⟨y, hy, h⟩ := h
    rw [Option.map_eq_some_iff] at h
    obtain ⟨ys', hys, rfl⟩ := h
    exact .cons (hf x y v hy h1) (all?_sim hf hys h2)
theorem toD_sim {B : Nat} {M Mt : List Reg} (h : Rel X B M φ σ a w) {ids : List Nat} (hc : Covers φ σ ids Mt) : ∀ (n : Nat),
    (∀ (x : A) (d : D) (u : Value), toDA (hide ids σ.objs) (toDV (hide ids σ.objs) n) x = some d → ARel X φ w x u → DRel X.ρ (inner X.ρ w Mt).I w d u) ∧
    (∀ (x : V) (d : D) (u : Value), toDV (hide ids σ.objs) n x = some d → VRel X φ w x u → DRel X.ρ (inner X.ρ w Mt).I w d u)
  | 0 => by
    refine ⟨?_, fun x d u hd => by simp [toDV] at hd⟩
    intro x d u hd hx
    unfold toDA at hd
    split at hd
    · cases hd
      exact DRel.mono (fun b hb => ⟨inner_data h hc hb, rfl⟩) hx
    · obtain ⟨l, g1, rfl⟩ := hx
      split at hd
      · rename_i hob
        cases hd
        obtain ⟨l', g1', g2⟩ := h.objs _ _ (hide_some hob).1
        rw [g1] at g1'; cases g1'
        exact DRel.ref _ _ _ (inner_own h hc hob g1) (drop_range (flat_range g2) _)
      · simp [toDV] at hd
      · cases hd
    · rename_i o off len es
      obtain ⟨l, ad, cap, g1, rfl, g3, g4, g5⟩ := hx
      split at hd
      · rename_i hob
        split at hd
        · rename_i hle
          cases hd
          obtain ⟨l', g1', g2⟩ := h.objs _ _ (hide_some hob).1
          rw [g1] at g1'; cases g1'
          by_cases h0 : cap = 0
          · obtain rfl : len = 0 := by omega
            exact DRel.sl0 _ _ _ _ (by simp)
          · rw [g4 h0]
            exact DRel.sl _ _ _ _ _ _ (inner_own h hc hob g1) g3 (by rw [List.length_take, List.length_drop]; omega) (rangeAt_sub (flat_range g2) off (len * es))
        · cases hd
      · rename_i xs hob
        split at hd
        · rename_i hc'
          obtain ⟨rfl, rfl, hlen⟩ := hc'
          cases xs with
          | nil =>
            simp only [List.length_nil] at hlen
            subst hlen
            cases hd
            exact DRel.sld0 _ _
          | cons x xs => simp [all?, toDV] at hd
        · cases hd
      · cases hd
    · obtain ⟨b, o, g1, rfl, g2⟩ := hx
      cases hd
      exact DRel.ref _ _ _ (inner_data h hc g1) (drop_range g2 _)
    · cases hd
    · cases hd
    · rename_i o
      split at hd
      · rename_i hob
        cases hd
        obtain ⟨l, g1, rfl⟩ := hx
        obtain ⟨l', g1', g2⟩ := h.objs _ _ (hide_some hob).1
        rw [g1] at g1'; cases g1'
        exact DRel.map _ _ _ (inner_own h hc hob g1) g2
      · cases hd
  | n + 1 => by
    obtain ⟨ihA, ihV⟩ := toD_sim h hc n
    have hA : ∀ (x : A) (d : D) (u : Value), toDA (hide ids σ.objs) (toDV (hide ids σ.objs) n) x = some d → ARel X φ w x u → DRel X.ρ (inner X.ρ w Mt).I w d u := ihA
    have hV : ∀ (x : V) (d : D) (u : Value), toDV (hide ids σ.objs) (n + 1) x = some d → VRel X φ w x u → DRel X.ρ (inner X.ρ w Mt).I w d u := by
      intro x d u hd hx
      unfold toDV at hd
      split at hd
      · rename_i heq; cases heq
      · rename_i heq
        cases heq
        exact hA _ _ _ hd hx
      · rename_i f p q heq
        cases heq
        rw [obs] at hd
        obtain ⟨p', h1, hd⟩ := hd
        rw [Option.map_eq_some_iff] at hd
        obtain ⟨q', h2, rfl⟩ := hd
        obtain ⟨ps, qs, rfl, g1, g2⟩ := hx
        have k1 := all?_sim (R' := DRel X.ρ (inner X.ρ w Mt).I w) (fun x y v hy hr => hA x y v hy hr) h1 g1
        have k2 := all?_sim (R' := DRel X.ρ (inner X.ρ w Mt).I w) (fun x y v hy hr => hA x y v hy hr) h2 g2
        exact DRel.clo _ _ _ _ _ k1.1 k2.1 k1.2 k2.2
      · cases hd
    refine ⟨?_, hV⟩
    intro x d u hd hx
    unfold toDA at hd
    split at hd
    · cases hd
      exact DRel.mono (fun b hb => ⟨inner_data h hc hb, rfl⟩) hx
    · obtain ⟨l, g1, rfl⟩ := hx
      split at hd
      · rename_i hob
        cases hd
        obtain ⟨l', g1', g2⟩ := h.objs _ _ (hide_some hob).1
        rw [g1] at g1'; cases g1'
        exact DRel.ref _ _ _ (inner_own h hc hob g1) (drop_range (flat_range g2) _)
      · rename_i hob
        split at hd
        · rename_i h0
          subst h0
          rw [Option.map_eq_some_iff] at hd
          obtain ⟨d', h1, rfl⟩ := hd
          obtain ⟨l', g1', c, T, fz, v, k1, k2, _, k4⟩ := h.objs _ _ (hide_some hob).1
          rw [g1] at g1'; cases g1'
          exact DRel.refd _ _ _ v (inner_own h hc hob g1) (by simp [World.cell?, k1.1, k2]) (hV _ _ _ h1 k4)
        · cases hd
      · cases hd
    · rename_i o off len es
      obtain ⟨l, ad, cap, g1, rfl, g3, g4, g5⟩ := hx
      split at hd
      · rename_i hob
        split at hd
        · rename_i hle
          cases hd
          obtain ⟨l', g1', g2⟩ := h.objs _ _ (hide_some hob).1
          rw [g1] at g1'; cases g1'
          by_cases h0 : cap = 0
          · obtain rfl : len = 0 := by omega
            exact DRel.sl0 _ _ _ _ (by simp)
          · rw [g4 h0]
            exact DRel.sl _ _ _ _ _ _ (inner_own h hc hob g1) g3 (by rw [List.length_take, List.length_drop]; omega) (rangeAt_sub (flat_range g2) off (len * es))
        · cases hd
      · rename_i xs hob
        split at hd
        · rename_i hc'
          obtain ⟨rfl, rfl, hlen⟩ := hc'
          rw [Option.map_eq_some_iff] at hd
          obtain ⟨ds, hds, rfl⟩ := hd
          obtain ⟨l', g1', c, T, fz, vs, k1, k2, k3, k4⟩ := h.objs _ _ (hide_some hob).1
          rw [g1] at g1'; cases g1'
          have k5 := all?_sim (R' := DRel X.ρ (inner X.ρ w Mt).I w) (fun x y v hy hr => hV (.a x) y v hy hr) hds k4
          have hdl : ds.length = xs.length := by rw [k5.1, k4.1]
          by_cases h0 : cap = 0
          · obtain rfl : len = 0 := by omega
            have : ds = [] := List.eq_nil_of_length_eq_zero (by omega)
            subst this
            exact DRel.sld0 _ _
          · rw [g4 h0, Nat.add_zero]
            exact DRel.sld ds len _ _ _ vs (inner_own h hc hob g1) g3 (by omega) k5.1 k3 k5.2
        · cases hd
      · cases hd
    · obtain ⟨b, o, g1, rfl, g2⟩ := hx
      cases hd
      exact DRel.ref _ _ _ (inner_data h hc g1) (drop_range g2 _)
    · cases hd
    · cases hd
    · rename_i o
      split at hd
      · rename_i hob
        cases hd
        obtain ⟨l, g1, rfl⟩ := hx
        obtain ⟨l', g1', g2⟩ := h.objs _ _ (hide_some hob).1
        rw [g1] at g1'; cases g1'
        exact DRel.map _ _ _ (inner_own h hc hob g1) g2
      · cases hd
end
end Go.DM

/- A call: its arguments as a whole, what it has written, what comes back. -/
namespace Go.DM
variable [Tok]
section
variable {P : Program} {X : Cx} {φ : Nat → Option Loc} {w : World} {σ : St} {a : Act}
def regOf (φ : Nat → Option Loc) (σ : St) (m : Bool) (v : V) : Option (Nat × Reg) :=
  match m, v with
  | true, .a (.ptr o 0) => match φ o, σ.objs o with | some l, some (.flat _ cs) => some (o, l.1, l.2, cs.length) | _, _ => none
  | true, .a (.sl o off n es) => match φ o with | some l => some (o, l.1, l.2 + off, n * es) | _ => none
  | _, _ => none
def regs (φ : Nat → Option Loc) (σ : St) : List Bool → List V → List (Option (Nat × Reg))
  | _, [] => []
  | m :: ms, v :: vs => regOf φ σ m v :: regs φ σ ms vs
  | [], v :: vs => none :: regs φ σ [] vs
def snds (rs : List (Option (Nat × Reg))) : List (Option Reg) := rs.map fun r => r.map (·.2)
theorem args_sim {B : Nat} {M Mt : List Reg} (h : Rel X B M φ σ a w) {ids : List Nat} (hc : Covers φ σ ids Mt) : ∀ {ms : List Bool} {vs : List V} {us : List Value} {as : List Arg},
    args σ ids ms vs = some as → All2 (VRel X φ w) vs us → as.length = us.length ∧ as.length = (regs φ σ ms vs).length ∧
    (∀ (i : Nat) (x : Arg) (v : Value) (r : Option (Nat × Reg)), as[i]? = some x → us[i]? = some v → (regs φ σ ms vs)[i]? = some r → ArgRel (inner X.ρ w Mt) w x v (r.map (·.2))) ∧
    (∀ (i : Nat) (r : Nat × Reg), (regs φ σ ms vs)[i]? = some (some r) → ∃ ob l, σ.objs r.1 = some ob ∧ φ r.1 = some l ∧ l.1 = r.2.1 ∧ ∃ p cs, ob = .flat p cs ∧ ∃ off, r.2.2.1 = l.2 + off ∧ off + r.2.2.2 ≤ cs.length)
  | ms, [], us, as, h1, h2 => by
    have : us = [] := h2.nil_left
    subst this
    have e : as = [] := by
      cases ms <;> (simp only [args] at h1; cases h1; rfl)
    subst e
    have e2 : regs φ σ ms [] = [] := by cases ms <;> rfl
    rw [e2]
    exact ⟨rfl, rfl, fun i x v r hx => by simp at hx, fun i r hr => by simp at hr⟩
  | [], v :: vs, us, as, h1, h2 => by
    obtain ⟨u, us', rfl, g1, g2⟩ := h2.head
    simp only [args] at h1
    rw [obs] at h1
    obtain ⟨d, hd, h1⟩ := h1
    rw [Option.map_eq_some_iff] at h1
    obtain ⟨as', h3, rfl⟩ := h1
    obtain ⟨k1, k2, k3, k4⟩ := args_sim h hc h3 g2
    refine ⟨by simp [k1], by simp [regs, k2], fun i x v r hx hv hr => ?_, fun i r hr => ?_⟩
    · cases i with
      | zero =>
        simp [regs] at hx hv hr
        subst hx; subst hv; subst hr
        exact (toD_sim h hc depth).2 _ _ _ hd g1
      | succ i => exact k3 i x v r (by simpa using hx) (by simpa using hv) (by simpa [regs] using hr)
    · cases i with
      | zero => simp [regs] at hr
      | succ i => exact k4 i r (by simpa [regs] using hr)
  | m :: ms, v :: vs, us, as, h1, h2 => by
    obtain ⟨u, us', rfl, g1, g2⟩ := h2.head
    simp only [args] at h1
    rw [obs] at h1
    obtain ⟨x0, hx0, h1⟩ := h1
    rw [Option.map_eq_some_iff] at h1
    obtain ⟨as', h3, rfl⟩ := h1
    obtain ⟨k1, k2, k3, k4⟩ := args_sim h hc h3 g2
    have key : ArgRel (inner X.ρ w Mt) w x0 u ((regOf φ σ m v).map (·.2)) ∧ (∀ r, regOf φ σ m v = some r → ∃ ob l, σ.objs r.1 = some ob ∧ φ r.1 = some l ∧ l.1 = r.2.1 ∧ ∃ p cs, ob = .flat p cs ∧ ∃ off, r.2.2.1 = l.2 + off ∧ off + r.2.2.2 ≤ cs.length) := by
      cases m with
      | false =>
        simp only [Bool.false_eq_true, if_false] at hx0
        rw [Option.map_eq_some_iff] at hx0
        obtain ⟨d, hd, rfl⟩ := hx0
        have e : regOf φ σ false v = none := by unfold regOf; split <;> simp_all
        rw [e]
        exact ⟨(toD_sim h hc depth).2 _ _ _ hd g1, fun r hr => by cases hr⟩
      | true =>
        simp only [if_true] at hx0
        rw [Option.map_eq_some_iff] at hx0
        obtain ⟨⟨x1, o1⟩, hw, rfl⟩ := hx0
        unfold writable at hw
        split at hw
        · rename_i o
          split at hw
          · rename_i p cs hob
            cases hw
            obtain ⟨l, e1, rfl⟩ := g1
            obtain ⟨l', e1', c, T, fz, q1, q2, q3⟩ := h.objs o _ hob
            rw [e1] at e1'; cases e1'
            have e : regOf φ σ true (.a (.ptr o 0)) = some (o, l.1, l.2, cs.length) := by simp [regOf, e1, hob]
            rw [e]
            refine ⟨⟨rfl, rfl, q3, c, T, fz, q1, q2⟩, fun r hr => ?_⟩
            cases hr
            exact ⟨_, l, hob, e1, rfl, p, cs, rfl, 0, rfl, by simp⟩
          · cases hw
        · rename_i o off n es
          split at hw
          · rename_i p cs hob
            split at hw
            · rename_i hle
              cases hw
              obtain ⟨l, ad, cap, e1, rfl, e3, e4, e5⟩ := g1
              obtain ⟨l', e1', c, T, fz, q1, q2, q3⟩ := h.objs o _ hob
              rw [e1] at e1'; cases e1'
              have e : regOf φ σ true (.a (.sl o off n es)) = some (o, l.1, l.2 + off, n * es) := by simp [regOf, e1]
              rw [e]
              have hlen : ((cs.drop off).take (n * es)).length = n * es := by rw [List.length_take, List.length_drop]; omega
              refine ⟨⟨ad, cap, rfl, e3, e4, e5, hlen.symm, hlen, rangeAt_sub q3 off (n * es), c, T, fz, q1, ?_⟩, fun r hr => ?_⟩
              · rw [hlen]; show l.2 + off + n * es ≤ c.size; omega
              · cases hr
                exact ⟨_, l, hob, e1, rfl, p, cs, rfl, off, rfl, hle⟩
            · cases hw
          · cases hw
        · cases hw
          have e : regOf φ σ true (.a (.d (.s .nils))) = none := rfl
          rw [e]
          refine ⟨?_, fun r hr => by cases hr⟩
          have g1' : DRel X.ρ X.I w (.s .nils) u := g1
          cases g1'
          exact DRel.s .nils
        · cases hw
    refine ⟨by simp [k1], by simp [regs, k2], fun i x v' r hx hv hr => ?_, fun i r hr => ?_⟩
    · cases i with
      | zero =>
        simp [regs] at hx hv hr
        subst hx; subst hv; subst hr
        exact key.1
      | succ i => exact k3 i x v' r (by simpa using hx) (by simpa using hv) (by simpa [regs] using hr)
    · cases i with
      | zero => exact key.2 r (by simpa [regs] using hr)
      | succ i => exact k4 i r (by simpa [regs] using hr)
theorem regOf_ptr {o off : Nat} {r : Nat × Reg} (h : regOf φ σ true (.a (.ptr o off)) = some r) : r.1 = o := by
  cases off with
  | zero =>
    simp only [regOf] at h
    split at h
    · cases h; rfl
    · cases h
  | succ off => simp [regOf] at h
theorem regOf_sl {o off n es : Nat} {r : Nat × Reg} (h : regOf φ σ true (.a (.sl o off n es)) = some r) : r.1 = o := by
  simp only [regOf] at h
  split at h
  · cases h; rfl
  · cases h
theorem regs_ids : ∀ {ms : List Bool} {vs : List V}, nodup (mutIds ms vs) = true →
    (∀ (i : Nat) (r : Nat × Reg), (regs φ σ ms vs)[i]? = some (some r) → (mutIds ms vs).contains r.1 = true) ∧
    (∀ (i j : Nat) (r r' : Nat × Reg), (regs φ σ ms vs)[i]? = some (some r) → (regs φ σ ms vs)[j]? = some (some r') → r.1 = r'.1 → i = j)
  | ms, [], h => by
    have e2 : regs φ σ ms [] = [] := by cases ms <;> rfl
    rw [e2]
    exact ⟨fun i r hr => by simp at hr, fun i j r r' hr => by simp at hr⟩
  | [], v :: vs, h => by
    have e : ∀ (vs : List V) (i : Nat) (r : Nat × Reg), (regs φ σ [] vs)[i]? ≠ some (some r) := by
      intro vs
      induction vs with
      | nil => intro i r hr; simp [regs] at hr
      | cons v vs ih =>
        intro i r hr
        cases i with
        | zero => simp [regs] at hr
        | succ i => exact ih i r (by simpa [regs] using hr)
    exact ⟨fun i r hr => (e _ i r hr).elim, fun i j r r' hr => (e _ i r hr).elim⟩
  | m :: ms, v :: vs, h => by
    -- the head's object, if it has one
    have hd : (∃ o, mutIds (m :: ms) (v :: vs) = o :: mutIds ms vs ∧ ∀ r, regOf φ σ m v = some r → r.1 = o) ∨ (mutIds (m :: ms) (v :: vs) = mutIds ms vs ∧ regOf φ σ m v = none) := by
      cases m with
      | false =>
        right
        refine ⟨by simp [mutIds], ?_⟩
        unfold regOf; split <;> simp_all
      | true =>
        cases v with
        | a x =>
          cases x with
          | ptr o off =>
            left
            exact ⟨o, rfl, fun r hr => regOf_ptr hr⟩
          | sl o off n es =>
            left
            exact ⟨o, rfl, fun r hr => regOf_sl hr⟩
          | _ => right; exact ⟨rfl, rfl⟩
        | _ => right; exact ⟨rfl, rfl⟩
    rcases hd with ⟨o, e1, e2⟩ | ⟨e1, e2⟩
    · rw [e1] at h ⊢
      simp only [nodup, Bool.and_eq_true] at h
      obtain ⟨ih1, ih2⟩ := regs_ids h.2
      refine ⟨fun i r hr => ?_, fun i j r r' hr hr' he => ?_⟩
      · cases i with
        | zero =>
          have := e2 r (by simpa [regs] using hr)
          simp [this]
        | succ i =>
          have := ih1 i r (by simpa [regs] using hr)
          simp only [List.contains_cons, Bool.or_eq_true]
          exact .inr this
      · cases i with
        | zero =>
          cases j with
          | zero => rfl
          | succ j =>
            have h1 := e2 r (by simpa [regs] using hr)
            have h2 := ih1 j r' (by simpa [regs] using hr')
            rw [← he, h1] at h2
            have h3 := h.1
            rw [h2] at h3
            cases h3
        | succ i =>
          cases j with
          | zero =>
            have h1 := e2 r' (by simpa [regs] using hr')
            have h2 := ih1 i r (by simpa [regs] using hr)
            rw [he, h1] at h2
            have h3 := h.1
            rw [h2] at h3
            cases h3
          | succ j => rw [ih2 i j r r' (by simpa [regs] using hr) (by simpa [regs] using hr') he]
    · rw [e1] at h ⊢
      obtain ⟨ih1, ih2⟩ := regs_ids h
      refine ⟨fun i r hr => ?_, fun i j r r' hr hr' he => ?_⟩
      · cases i with
        | zero => simp [regs, e2] at hr
        | succ i => exact ih1 i r (by simpa [regs] using hr)
      · cases i with
        | zero => simp [regs, e2] at hr
        | succ i =>
          cases j with
          | zero => simp [regs, e2] at hr'
          | succ j => rw [ih2 i j r r' (by simpa [regs] using hr) (by simpa [regs] using hr') he]
theorem some?_mem {α : Type} {l : List (Option α)} {x : α} : x ∈ some? l ↔ ∃ i : Nat, l[i]? = some (some x) := by
  simp only [some?, List.mem_filterMap, id_eq, exists_eq_right]
  constructor
  · intro h
    obtain ⟨i, hi⟩ := List.mem_iff_getElem?.1 h
    exact ⟨i, hi⟩
  · rintro ⟨i, hi⟩
    exact List.mem_of_getElem? hi
theorem snds_get {rs : List (Option (Nat × Reg))} {i : Nat} {m : Reg} (h : (snds rs)[i]? = some (some m)) : ∃ o, rs[i]? = some (some (o, m)) := by
  rw [snds, List.getElem?_map, Option.map_eq_some_iff] at h
  obtain ⟨r, h1, h2⟩ := h
  cases r with
  | none => cases h2
  | some r =>
    cases h2
    exact ⟨r.1, h1⟩
theorem argsRel {B : Nat} {M : List Reg} (h : Rel X B M φ σ a w) {ms : List Bool} {vs : List V} {us : List Value} {as : List Arg} (hn : nodup (mutIds ms vs) = true)
    (ha : args σ (mutIds ms vs) ms vs = some as) (hv : All2 (VRel X φ w) vs us) : ArgsRel X.ρ w as us (snds (regs φ σ ms vs)) := by
  obtain ⟨r1, r2⟩ := regs_ids (φ := φ) (σ := σ) hn
  -- first without knowing which blocks: the regions are those of the objects
  have hc : Covers φ σ (mutIds ms vs) (some? (snds (regs φ σ ms vs))) := by
    intro m hm
    obtain ⟨i, hi⟩ := some?_mem.1 hm
    obtain ⟨o, ho⟩ := snds_get hi
    obtain ⟨_, _, _, k4⟩ := args_sim (Mt := []) h (ids := mutIds ms vs) (fun m hm => by cases hm) ha hv
    obtain ⟨ob, l, g1, g2, g3, _⟩ := k4 i _ ho
    exact ⟨o, ob, l, r1 i _ ho, g1, g2, g3⟩
  obtain ⟨k1, k2, k3, k4⟩ := args_sim h hc ha hv
  refine ⟨k1, by simp [snds, k2], ?_, ⟨?_, ?_⟩, ?_⟩
  · intro i x v r hx hv' hr
    simp only [snds, List.getElem?_map, Option.map_eq_some_iff] at hr
    obtain ⟨r', h1, rfl⟩ := hr
    exact k3 i x v r' hx hv' h1
  · intro m hm
    obtain ⟨o, ob, l, _, g2, g3, g4⟩ := hc m hm
    rw [← g4]
    exact (h.own o ob l g2 g3).2.1
  · intro m hm m' hm' e
    obtain ⟨i, hi⟩ := some?_mem.1 hm
    obtain ⟨j, hj⟩ := some?_mem.1 hm'
    obtain ⟨o, ho⟩ := snds_get hi
    obtain ⟨o', ho'⟩ := snds_get hj
    obtain ⟨ob, l, g1, g2, g3, _⟩ := k4 i _ ho
    obtain ⟨ob', l', g1', g2', g3', _⟩ := k4 j _ ho'
    have e0 := h.inj o o' ob ob' l l' g1 g1' g2 g2' (g3.trans (e.trans g3'.symm))
    have := r2 i j _ _ ho ho' e0
    subst this
    rw [hi] at hj; cases hj
    rfl
  · intro i j m m' hi hj e
    obtain ⟨o, ho⟩ := snds_get hi
    obtain ⟨o', ho'⟩ := snds_get hj
    obtain ⟨ob, l, g1, g2, g3, _⟩ := k4 i _ ho
    obtain ⟨ob', l', g1', g2', g3', _⟩ := k4 j _ ho'
    exact r2 i j _ _ ho ho' (h.inj o o' ob ob' l l' g1 g1' g2 g2' (g3.trans (e.trans g3'.symm)))
end
end Go.DM
