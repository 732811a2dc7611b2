/- What it says that a state of the small machine stands for a state of the model: values, objects, frames, worlds. -/
import Derived.Test.YtgbifpijjfolbaaGreatK441
import Derived.Calls
import Derived.Laws.IdiomCopy
import Derived.Deep.MidRow
import Derived.Laws.AppendOwn
set_option linter.all false
namespace Go.DM
variable [Tok]
def enc : S → Value
  | .bool b => .bool b | .int k n => .int k n | .str s => .string ⟨s.toArray⟩
  | .tok i => .slice (Tok.adr i) (Tok.dat i).length (Tok.cap i)
  | .nils => .slice none 0 0 | .nilp => .pointer none | .nilm => .map none | .nilf => .nilFunc | .nilI => .nilIface
theorem enc_int (k : IntKind) (n : Int) : enc (.int k n) = .int k n := rfl
theorem enc_bool (b : Bool) : enc (.bool b) = .bool b := rfl
theorem enc_str (s : List UInt8) : enc (.str s) = .string ⟨s.toArray⟩ := rfl
theorem enc_nils : enc .nils = .slice none 0 0 := rfl
def encs (cs : List S) : List Value := cs.map enc
def All2 {α β : Type} (R : α → β → Prop) (xs : List α) (vs : List β) : Prop :=
  xs.length = vs.length ∧ ∀ (i : Nat) (x : α) (v : β), xs[i]? = some x → vs[i]? = some v → R x v
theorem All2.mono {α β : Type} {R R' : α → β → Prop} {xs : List α} {vs : List β} (h : All2 R xs vs) (hr : ∀ x v, x ∈ xs → R x v → R' x v) : All2 R' xs vs :=
  ⟨h.1, fun i x v hx hv => hr x v (List.mem_of_getElem? hx) (h.2 i x v hx hv)⟩
theorem All2.nil {α β : Type} {R : α → β → Prop} : All2 R [] [] := ⟨rfl, fun i x v hx => by simp at hx⟩
theorem All2.cons {α β : Type} {R : α → β → Prop} {x : α} {v : β} {xs : List α} {vs : List β} (h : R x v) (t : All2 R xs vs) : All2 R (x :: xs) (v :: vs) :=
  ⟨by simp [t.1], fun i y u hy hu => by
    cases i with
    | zero => simp at hy hu; subst hy; subst hu; exact h
    | succ i => exact t.2 i y u (by simpa using hy) (by simpa using hu)⟩
theorem All2.head {α β : Type} {R : α → β → Prop} {x : α} {xs : List α} {vs : List β} (h : All2 R (x :: xs) vs) : ∃ v vs', vs = v :: vs' ∧ R x v ∧ All2 R xs vs' := by
  obtain ⟨hl, h⟩ := h
  cases vs with
  | nil => simp at hl
  | cons v vs => exact ⟨v, vs, rfl, h 0 x v rfl rfl, by simpa using hl, fun i y u hy hu => h (i + 1) y u (by simpa using hy) (by simpa using hu)⟩
theorem All2.nil_left {α β : Type} {R : α → β → Prop} {vs : List β} (h : All2 R [] vs) : vs = [] := List.eq_nil_of_length_eq_zero h.1.symm
theorem All2.append {α β : Type} {R : α → β → Prop} {xs ys : List α} {vs us : List β} (h : All2 R xs vs) (g : All2 R ys us) : All2 R (xs ++ ys) (vs ++ us) := by
  refine ⟨by simp [h.1, g.1], fun i x v hx hv => ?_⟩
  by_cases hi : i < xs.length
  · rw [List.getElem?_append_left hi] at hx
    rw [List.getElem?_append_left (by rw [← h.1]; exact hi)] at hv
    exact h.2 i x v hx hv
  · rw [List.getElem?_append_right (by omega)] at hx
    rw [List.getElem?_append_right (by have := h.1; omega), ← h.1] at hv
    exact g.2 _ x v hx hv
theorem All2.get {α β : Type} {R : α → β → Prop} {xs : List α} {vs : List β} (h : All2 R xs vs) {i : Nat} {x : α} (hx : xs[i]? = some x) : ∃ v, vs[i]? = some v ∧ R x v := by
  have hi : i < vs.length := by rw [← h.1]; exact (List.getElem?_eq_some_iff.1 hx).1
  exact ⟨vs[i], List.getElem?_eq_getElem hi, h.2 i x _ hx (List.getElem?_eq_getElem hi)⟩
theorem All2.map {α β γ : Type} {R : α → β → Prop} {f : γ → α} {g : γ → β} {zs : List γ} (h : ∀ z ∈ zs, R (f z) (g z)) : All2 R (zs.map f) (zs.map g) :=
  ⟨by simp, fun i x v hx hv => by
    simp only [List.getElem?_map, Option.map_eq_some_iff] at hx hv
    obtain ⟨z, hz, rfl⟩ := hx
    obtain ⟨z', hz', rfl⟩ := hv
    rw [hz] at hz'; cases hz'
    exact h z (List.mem_of_getElem? hz)⟩
def rep1 (cs : List S) : Value := match cs with | [x] => enc x | _ => .agg (encs cs).toArray
def mapAt (w : World) (b : Nat) (ks : List SK) (es : List (List S × List S)) : Prop :=
  ∃ (ents : Array MapEntry) (clock : Nat), w.heap[b]? = some (.map ents clock) ∧ ents.toList.map (fun e => (e.key, e.val)) = es.map (fun p => (rep1 p.1, rep1 p.2)) ∧ (∀ p ∈ es, hasKs ks p.1 = true) ∧ (∀ (j : Nat) (e : MapEntry), ents[j]? = some e → e.born = j) ∧ clock = ents.size
inductive DRel (ρ : Nat → Nat) (I : Nat → Prop) (w : World) : D → Value → Prop
  | s (x : S) : DRel ρ I w (.s x) (enc x)
  | agg (cs : List S) : DRel ρ I w (.agg cs) (.agg (encs cs).toArray)
  | sl0 (es : Nat) (cs : List S) (a : Option Addr) (cap : Nat) (hcs : cs = []) : DRel ρ I w (.sl 0 es cs) (.slice a 0 cap)
  | sl (n es : Nat) (cs : List S) (b off cap : Nat) (hI : I b) (hc : n ≤ cap) (hl : cs.length = n * es) (h : w.rangeAt b off (encs cs)) : DRel ρ I w (.sl n es cs) (.slice (some ⟨b, off, none⟩) n cap)
  | sld0 (a : Option Addr) (cap : Nat) : DRel ρ I w (.sld []) (.slice a 0 cap)
  | sld (ds : List D) (n b off cap : Nat) (vs : List Value) (hI : I b) (hc : n ≤ cap) (hn : n = ds.length) (hl : ds.length = vs.length) (h : w.rangeAt b off vs)
      (hr : ∀ (i : Nat) (d : D) (v : Value), ds[i]? = some d → vs[i]? = some v → DRel ρ I w d v) : DRel ρ I w (.sld ds) (.slice (some ⟨b, off, none⟩) n cap)
  | ref (cs : List S) (b off : Nat) (hI : I b) (h : w.rangeAt b off (encs cs)) : DRel ρ I w (.ref cs) (.pointer (some ⟨b, off, none⟩))
  | refd (x : D) (b off : Nat) (v : Value) (hI : I b) (h : w.cell? ⟨b, off, none⟩ = some v) (hx : DRel ρ I w x v) : DRel ρ I w (.refd x) (.pointer (some ⟨b, off, none⟩))
  | map (ks : List SK) (es : List (List S × List S)) (b : Nat) (hI : I b) (h : mapAt w b ks es) : DRel ρ I w (.map ks es) (.map (some b))
  | clo (f : Nat) (pre post : List D) (ps qs : List Value) (hp : pre.length = ps.length) (hq : post.length = qs.length)
      (h1 : ∀ (i : Nat) (d : D) (v : Value), pre[i]? = some d → ps[i]? = some v → DRel ρ I w d v)
      (h2 : ∀ (i : Nat) (d : D) (v : Value), post[i]? = some d → qs[i]? = some v → DRel ρ I w d v) : DRel ρ I w (.clo f pre post) (.func (.func (ρ f)) ps.toArray qs.toArray)
abbrev Same (w w' : World) (b : Nat) : Prop := w'.heap[b]? = w.heap[b]?
theorem rangeAt_same {w w' : World} {b off : Nat} {vs : List Value} (hs : Same w w' b) (h : w.rangeAt b off vs) : w'.rangeAt b off vs := fun j v hv => by
  rw [← h j v hv]; exact World.cell?_of_block (a := ⟨b, off + j, none⟩) hs
theorem mapAt.same {w w' : World} {b : Nat} {ks : List SK} {es : List (List S × List S)} (hs : Same w w' b) (h : mapAt w b ks es) : mapAt w' b ks es := by
  obtain ⟨ents, clock, h1, h2⟩ := h
  exact ⟨ents, clock, hs.trans h1, h2⟩
theorem DRel.mono {ρ : Nat → Nat} {I I' : Nat → Prop} {w w' : World} (hI : ∀ b, I b → I' b ∧ Same w w' b) {d : D} {v : Value} (h : DRel ρ I w d v) : DRel ρ I' w' d v := by
  induction h with
  | s x => exact .s x
  | agg cs => exact .agg cs
  | sl0 es cs a cap hcs => exact .sl0 es cs a cap hcs
  | sl n es cs b off cap hb hc hl h => exact .sl n es cs b off cap (hI b hb).1 hc hl (rangeAt_same (hI b hb).2 h)
  | sld0 a cap => exact .sld0 a cap
  | sld ds n b off cap vs hb hc hn hl h _ ih => exact .sld ds n b off cap vs (hI b hb).1 hc hn hl (rangeAt_same (hI b hb).2 h) ih
  | ref cs b off hb h => exact .ref cs b off (hI b hb).1 (rangeAt_same (hI b hb).2 h)
  | refd x b off v hb h _ ih => exact .refd x b off v (hI b hb).1 (by rw [← h]; exact World.cell?_of_block (a := ⟨b, off, none⟩) (hI b hb).2) ih
  | map ks es b hb h => exact .map ks es b (hI b hb).1 (h.same (hI b hb).2)
  | clo f pre post ps qs hp hq _ _ i1 i2 => exact .clo f pre post ps qs hp hq i1 i2
abbrev Loc := Nat × Nat
def Blk (w : World) (b : Nat) (c : Array Value) (T : TypeId) (fz : Nat × Nat) : Prop :=
  w.heap[b]? = some (.cells c T fz) ∧ ∀ k, k < c.size → ¬ (fz.1 ≤ k ∧ k < fz.2)
def Room (w : World) (b k : Nat) : Prop := ∃ c T fz, w.heap[b]? = some (.cells c T fz) ∧ k ≤ c.size
structure Kn where
  K : World → Prop
  n0 : Nat
  keep : ∀ w w', K w → w.heap.size ≤ w'.heap.size → (∀ b, b < n0 → Same w w' b) → K w'
def TokAt (n0 : Nat) (w : World) : Prop := ∀ i, Tok.dat i ≠ [] → ∃ b o, Tok.adr i = some ⟨b, o, none⟩ ∧ b < n0 ∧ w.rangeAt b o (encs (u8s (Tok.dat i)))
def Kn.Ks (κ : Kn) (w : World) : Prop := κ.K w ∧ TokAt κ.n0 w
theorem Kn.keeps (κ : Kn) (w w' : World) (h : κ.Ks w) (h1 : w.heap.size ≤ w'.heap.size) (h2 : ∀ b, b < κ.n0 → Same w w' b) : κ.Ks w' :=
  ⟨κ.keep w w' h.1 h1 h2, fun i hi => by
    obtain ⟨b, o, g1, g2, g3⟩ := h.2 i hi
    exact ⟨b, o, g1, g2, rangeAt_same (h2 b g2) g3⟩⟩
def Kn.none : Kn := ⟨fun _ => True, 0, fun _ _ _ _ _ => trivial⟩
structure Cx where
  ρ : Nat → Nat
  I : Nat → Prop
  κ : Kn := Kn.none
def parLen : Ob → Option Nat | .flat true cs => some cs.length | _ => none
def ARel (X : Cx) (φ : Nat → Option Loc) (w : World) : A → Value → Prop
  | .d x, v => DRel X.ρ X.I w x v
  | .ptr o off, v => ∃ l, φ o = some l ∧ v = .pointer (some ⟨l.1, l.2 + off, none⟩)
  | .sl o off n es, v => ∃ l ad cap, φ o = some l ∧ v = .slice (some ⟨l.1, ad, none⟩) n cap ∧ n ≤ cap ∧ (cap ≠ 0 → ad = l.2 + off) ∧ Room w l.1 (l.2 + off + cap * es)
  | .dptr cs off, v => ∃ b o, X.I b ∧ v = .pointer (some ⟨b, o + off, none⟩) ∧ w.rangeAt b o (encs cs)
  | .dptrd ds i, v => ∃ b o vs, X.I b ∧ v = .pointer (some ⟨b, o + i, none⟩) ∧ w.rangeAt b o vs ∧ All2 (DRel X.ρ X.I w) ds vs
  | .mp o, v => ∃ l, φ o = some l ∧ v = .map (some l.1)
  | .dead, _ => True
def VRel (X : Cx) (φ : Nat → Option Loc) (w : World) : V → Value → Prop
  | .a x, v => ARel X φ w x v
  | .clo f p q, v => ∃ ps qs, v = .func (.func (X.ρ f)) ps.toArray qs.toArray ∧ All2 (ARel X φ w) p ps ∧ All2 (ARel X φ w) q qs
  | .tup xs, v => ∃ vs, v = .tuple vs.toArray ∧ All2 (ARel X φ w) xs vs
  | .undef, _ => True
def ObRel (X : Cx) (φ : Nat → Option Loc) (w : World) : Ob → Loc → Prop
  | .flat _ cs, l => ∃ c T fz, Blk w l.1 c T fz ∧ l.2 + cs.length ≤ c.size ∧ w.rangeAt l.1 l.2 (encs cs)
  | .var x, l => ∃ c T fz u, Blk w l.1 c T fz ∧ c[l.2]? = some u ∧ u.oneCell' = true ∧ VRel X φ w x u
  | .map ks es, l => mapAt w l.1 ks es
  | .row xs, l => ∃ c T fz vs, Blk w l.1 c T fz ∧ l.2 + xs.length ≤ c.size ∧ w.rangeAt l.1 l.2 vs ∧ All2 (ARel X φ w) xs vs
def Shape (w w' : World) : Prop := ∀ (b : Nat) (c : Array Value) (T : TypeId) (fz : Nat × Nat), w.heap[b]? = some (Obj.cells c T fz) → ∃ c' : Array Value, w'.heap[b]? = some (Obj.cells c' T fz) ∧ c'.size = c.size
theorem Room.mono {w w' : World} {b k : Nat} (h : Room w b k) (hs : Shape w w') : Room w' b k := by
  obtain ⟨c, T, fz, hb, hk⟩ := h
  obtain ⟨c', hb', hc⟩ := hs b c T fz hb
  exact ⟨c', T, fz, hb', by omega⟩
theorem ARel.kill {X : Cx} {φ φ' : Nat → Option Loc} {w w' : World} {ids : List Nat} (hφ : ∀ o, ids.contains o = false → φ' o = φ o) (hs : Shape w w') (hI : ∀ b, X.I b → Same w w' b)
    {x : A} {v : Value} (hd : deadA ids x = false) (h : ARel X φ w x v) : ARel X φ' w' x v := by
  cases x with
  | d x => exact DRel.mono (fun b hb => ⟨hb, hI b hb⟩) h
  | ptr o off => obtain ⟨l, h1, h2⟩ := h; exact ⟨l, by rw [hφ o hd]; exact h1, h2⟩
  | sl o off n es => obtain ⟨l, ad, cap, h1, h2, h3, h4, h5⟩ := h; exact ⟨l, ad, cap, by rw [hφ o hd]; exact h1, h2, h3, h4, h5.mono hs⟩
  | dptr cs off => obtain ⟨b, o, h1, h2, h3⟩ := h; exact ⟨b, o, h1, h2, rangeAt_same (hI b h1) h3⟩
  | dptrd ds i => obtain ⟨b, o, vs, h1, h2, h3, h4⟩ := h; exact ⟨b, o, vs, h1, h2, rangeAt_same (hI b h1) h3, h4.mono fun x v _ hx => DRel.mono (fun b hb => ⟨hb, hI b hb⟩) hx⟩
  | mp o => obtain ⟨l, h1, h2⟩ := h; exact ⟨l, by rw [hφ o hd]; exact h1, h2⟩
  | dead => trivial
theorem All2.kill {X : Cx} {φ φ' : Nat → Option Loc} {w w' : World} {ids : List Nat} (hφ : ∀ o, ids.contains o = false → φ' o = φ o) (hs : Shape w w') (hI : ∀ b, X.I b → Same w w' b)
    {xs : List A} {vs : List Value} (hd : xs.any (deadA ids) = false) (h : All2 (ARel X φ w) xs vs) : All2 (ARel X φ' w') xs vs :=
  h.mono fun x v hx hr => ARel.kill hφ hs hI (by
    cases hc : deadA ids x with
    | false => rfl
    | true => rw [List.any_eq_true.2 ⟨x, hx, hc⟩] at hd; cases hd) hr
theorem VRel.kill {X : Cx} {φ φ' : Nat → Option Loc} {w w' : World} {ids : List Nat} (hφ : ∀ o, ids.contains o = false → φ' o = φ o) (hs : Shape w w') (hI : ∀ b, X.I b → Same w w' b)
    {x : V} {v : Value} (h : VRel X φ w x v) : VRel X φ' w' (killV ids x) v := by
  cases x with
  | a x =>
    simp only [killV]
    cases hd : deadA ids x with
    | true => trivial
    | false => exact ARel.kill hφ hs hI hd h
  | clo f p q =>
    simp only [killV]
    cases hp : p.any (deadA ids) with
    | true => trivial
    | false =>
      cases hq : q.any (deadA ids) with
      | true => trivial
      | false =>
        obtain ⟨ps, qs, h1, h2, h3⟩ := h
        exact ⟨ps, qs, h1, All2.kill hφ hs hI hp h2, All2.kill hφ hs hI hq h3⟩
  | tup xs =>
    obtain ⟨vs, h1, h2⟩ := h
    refine ⟨vs, h1, by simp [h2.1], fun i x v hx hv => ?_⟩
    simp only [List.getElem?_map, Option.map_eq_some_iff] at hx
    obtain ⟨y, hy, rfl⟩ := hx
    cases hd : deadA ids y with
    | true => trivial
    | false => exact ARel.kill hφ hs hI hd (h2.2 i y v hy hv)
  | undef => trivial
theorem VRel.keep {X : Cx} {φ φ' : Nat → Option Loc} {w w' : World} (hφ : ∀ o, φ' o = φ o) (hs : Shape w w') (hI : ∀ b, X.I b → Same w w' b)
    {x : V} {v : Value} (h : VRel X φ w x v) : VRel X φ' w' x v := by
  have := VRel.kill (ids := []) (fun o _ => hφ o) hs hI h
  cases x with
  | a x => simpa [killV, show deadA [] x = false by cases x <;> rfl] using this
  | clo f p q => 
    have e : ∀ xs : List A, xs.any (deadA []) = false := fun xs => by
      rw [List.any_eq_false]; intro x _; cases x <;> simp [deadA]
    simpa [killV, e] using this
  | tup xs =>
    have e : (fun x : A => if deadA [] x then A.dead else x) = id := by
      funext x; cases x <;> simp [deadA]
    simpa [killV, e] using this
  | undef => trivial
theorem ObRel.kill {X : Cx} {φ φ' : Nat → Option Loc} {w w' : World} {ids : List Nat} (hφ : ∀ o, ids.contains o = false → φ' o = φ o) (hs : Shape w w') (hI : ∀ b, X.I b → Same w w' b)
    {x : Ob} {l : Loc} (hl : Same w w' l.1) (h : ObRel X φ w x l) : ObRel X φ' w' (killO ids x) l := by
  cases x with
  | flat p cs => obtain ⟨c, T, fz, h1, h2, h3⟩ := h; exact ⟨c, T, fz, ⟨by rw [hl]; exact h1.1, h1.2⟩, h2, rangeAt_same hl h3⟩
  | var x => obtain ⟨c, T, fz, u, h1, h2, h3, h4⟩ := h; exact ⟨c, T, fz, u, ⟨by rw [hl]; exact h1.1, h1.2⟩, h2, h3, VRel.kill hφ hs hI h4⟩
  | map ks es => exact mapAt.same hl h
  | row xs =>
    obtain ⟨c, T, fz, vs, h1, h2, h3, h4⟩ := h
    refine ⟨c, T, fz, vs, ⟨by rw [hl]; exact h1.1, h1.2⟩, by simpa using h2, rangeAt_same hl h3, by simp [h4.1], fun i x v hx hv => ?_⟩
    simp only [List.getElem?_map, Option.map_eq_some_iff] at hx
    obtain ⟨y, hy, rfl⟩ := hx
    cases hd : deadA ids y with
    | true => trivial
    | false => exact ARel.kill hφ hs hI hd (h4.2 i y v hy hv)
abbrev Reg := Nat × Nat × Nat
structure Left (M : List Reg) (w0 w : World) : Prop where
  os : w.os = w0.os
  tape : w.tape = w0.tape
  output : w.output = w0.output
  size : w0.heap.size ≤ w.heap.size
  shape : Shape w0 w
  same : ∀ b, b < w0.heap.size → (∀ m ∈ M, m.1 ≠ b) → Same w0 w b
  out : ∀ m ∈ M, ∀ k, ¬ (m.2.1 ≤ k ∧ k < m.2.1 + m.2.2) → w.cell? ⟨m.1, k, none⟩ = w0.cell? ⟨m.1, k, none⟩
structure Rel (X : Cx) (B : Nat) (M : List Reg) (φ : Nat → Option Loc) (σ : St) (a : Act) (w : World) : Prop where
  env : ∀ t, VRel X φ w (σ.env t) (a.tmps.getD t Go.undef)
  objs : ∀ o ob, σ.objs o = some ob → ∃ l, φ o = some l ∧ ObRel X φ w ob l
  inj : ∀ o o' ob ob' l l', σ.objs o = some ob → σ.objs o' = some ob' → φ o = some l → φ o' = some l' → l.1 = l'.1 → o = o'
  own : ∀ o ob l, σ.objs o = some ob → φ o = some l → ¬ X.I l.1 ∧ l.1 < w.heap.size ∧ match parLen ob with | some n => (l.1, l.2, n) ∈ M | none => B ≤ l.1
  lt : ∀ b, X.I b → b < w.heap.size
  low : B ≤ w.heap.size
  know : X.κ.Ks w ∧ X.κ.n0 ≤ B ∧ (∀ m ∈ M, X.κ.n0 ≤ m.1) ∧ ∀ b, b < X.κ.n0 → X.I b
theorem Rel.kill {X : Cx} {B : Nat} {M : List Reg} {φ : Nat → Option Loc} {σ : St} {a : Act} {w : World} (h : Rel X B M φ σ a w) (ids : List Nat) : Rel X B M φ (kill ids σ) a w := by
  have hs : Shape w w := fun b c T fz hb => ⟨c, hb, rfl⟩
  have ho : ∀ o ob, (DM.kill ids σ).objs o = some ob → ∃ ob', σ.objs o = some ob' ∧ ob = killO ids ob' := by
    intro o ob hob
    simp only [DM.kill] at hob
    split at hob
    · cases hob
    · rw [Option.map_eq_some_iff] at hob
      obtain ⟨ob', h1, h2⟩ := hob
      exact ⟨ob', h1, h2.symm⟩
  refine ⟨fun t => VRel.kill (fun _ _ => rfl) hs (fun _ _ => rfl) (h.env t), ?_, ?_, ?_, h.lt, h.low, h.know⟩
  · intro o ob hob
    obtain ⟨ob', h1, rfl⟩ := ho o ob hob
    obtain ⟨l, h2, h3⟩ := h.objs o ob' h1
    exact ⟨l, h2, ObRel.kill (fun _ _ => rfl) hs (fun _ _ => rfl) rfl h3⟩
  · intro o o' ob ob' l l' h1 h2 h3 h4 h5
    obtain ⟨_, h1', _⟩ := ho o ob h1
    obtain ⟨_, h2', _⟩ := ho o' ob' h2
    exact h.inj o o' _ _ l l' h1' h2' h3 h4 h5
  · intro o ob l h1 h2
    obtain ⟨ob', h1', rfl⟩ := ho o ob h1
    obtain ⟨g1, g2, g3⟩ := h.own o ob' l h1' h2
    refine ⟨g1, g2, ?_⟩
    cases ob' <;> exact g3
def lookP : List (Nat × Ob) → Nat → Option Ob
  | [], _ => none
  | p :: ps, o => match lookP ps o with | some x => some x | none => if p.1 = o then some p.2 else none
theorem objs_insertAll (ps : List (Nat × Ob)) : ∀ (σ : St) (o : Nat), (insertAll ps σ).objs o = match lookP ps o with | some x => some x | none => σ.objs o := by
  induction ps with
  | nil => intro σ o; rfl
  | cons p ps ih =>
    intro σ o
    simp only [insertAll, ih, lookP]
    cases lookP ps o with
    | some x => rfl
    | none =>
      simp only [put, upd]
      by_cases e : p.1 = o
      · simp [e]
      · simp [e, Ne.symm e]
theorem env_insertAll (ps : List (Nat × Ob)) : ∀ (σ : St), (insertAll ps σ).env = σ.env := by
  induction ps with
  | nil => intro σ; rfl
  | cons p ps ih => intro σ; simp only [insertAll, ih, put]
structure Does (X : Cx) (σ : St) (r : Dl) (φ φ' : Nat → Option Loc) (w w' : World) (u : Value) : Prop where
  os : w'.os = w.os
  tape : w'.tape = w.tape
  output : w'.output = w.output
  size : w.heap.size ≤ w'.heap.size
  shape : Shape w w'
  phi : ∀ o, r.kills.contains o = false → φ' o = φ o
  same : ∀ b, b < w.heap.size → (∀ o ob l, σ.objs o = some ob → (lookP r.puts o).isSome = true → φ o = some l → l.1 ≠ b) → Same w w' b
  puts : ∀ o ob, lookP r.puts o = some ob → ∃ l, φ' o = some l ∧ ObRel X φ' w' ob l ∧ l.1 < w'.heap.size ∧
    ((w.heap.size ≤ l.1 ∧ parLen ob = none) ∨ ∃ o0 ob0 l0, σ.objs o0 = some ob0 ∧ φ o0 = some l0 ∧ l0.1 = l.1 ∧
      ((o0 = o ∧ l0 = l ∧ parLen ob = parLen ob0) ∨ (r.kills.contains o0 = true ∧ parLen ob0 = none ∧ parLen ob = none)))
  inj : ∀ o o' ob ob' l l', lookP r.puts o = some ob → lookP r.puts o' = some ob' → φ' o = some l → φ' o' = some l' → l.1 = l'.1 → o = o'
  val : VRel X φ' w' r.v u
  out : ∀ o ob n l, lookP r.puts o = some ob → parLen ob = some n → φ o = some l → ∀ k, ¬ (l.2 ≤ k ∧ k < l.2 + n) → w'.cell? ⟨l.1, k, none⟩ = w.cell? ⟨l.1, k, none⟩
theorem parLen_kill (ids : List Nat) (ob : Ob) : parLen (killO ids ob) = parLen ob := by cases ob <;> rfl
theorem Rel.apply {X : Cx} {B : Nat} {M : List Reg} {φ φ' : Nat → Option Loc} {σ σ0 : St} {a : Act} {w w' : World} {r : Dl} {u : Value} {dst : Option Nat}
    (h : Rel X B M φ σ a w) (d : Does X σ0 r φ φ' w w' u) (h0 : ∀ o ob, σ0.objs o = some ob → ∃ ob', σ.objs o = some ob' ∧ parLen ob' = parLen ob)
    (hd : ∀ t, dst = some t → t < a.tmps.size) : Rel X B M φ' (applyD dst r σ) (a.put dst u) w' := by
  -- blocks of which nothing is said stay
  have hI : ∀ b, X.I b → Same w w' b := fun b hb => d.same b (h.lt b hb) fun o ob l h1 _ h3 e => by
    obtain ⟨ob', h1', _⟩ := h0 o ob h1
    exact (h.own o ob' l h1' h3).1 (e ▸ hb)
  have hks : ∀ o, r.kills.contains o = false → φ' o = φ o := d.phi
  have hobj : ∀ o, (applyD dst r σ).objs o = match lookP r.puts o with | some x => some x | none => (DM.kill r.kills σ).objs o := by
    intro o
    have e1 : ∀ (v : V) (σ : St), (set dst v σ).objs = σ.objs := fun v σ => by cases dst <;> rfl
    rw [applyD, e1, objs_insertAll]
  -- an object that was there and that nothing is said of
  have hold : ∀ o ob, lookP r.puts o = none → (DM.kill r.kills σ).objs o = some ob → ∃ ob' l, σ.objs o = some ob' ∧ ob = killO r.kills ob' ∧ r.kills.contains o = false ∧ φ o = some l ∧ φ' o = some l ∧ ObRel X φ w ob' l ∧ Same w w' l.1 := by
    intro o ob hp hob
    simp only [DM.kill] at hob
    split at hob
    · cases hob
    · rename_i hc
      rw [Option.map_eq_some_iff] at hob
      obtain ⟨ob', h1, h2⟩ := hob
      obtain ⟨l, h3, h4⟩ := h.objs o ob' h1
      have hc' : r.kills.contains o = false := by simpa using hc
      refine ⟨ob', l, h1, h2.symm, hc', h3, by rw [hks o hc', h3], h4, d.same l.1 (h.own o ob' l h1 h3).2.1 fun o1 ob1 l1 g1 g2 g3 e => ?_⟩
      obtain ⟨ob1', g1', _⟩ := h0 o1 ob1 g1
      have := h.inj o1 o ob1' ob' l1 l g1' h1 g3 h3 e
      subst this
      rw [hp] at g2; cases g2
  -- two objects that stand lie in two blocks: one that was there, one that is new
  have hmix : ∀ o o' ob ob' l l', lookP r.puts o = some ob → lookP r.puts o' = none → (DM.kill r.kills σ).objs o' = some ob' → φ' o = some l → φ' o' = some l' → l.1 = l'.1 → False := by
    intro o o' ob ob' l l' g1 g2 g3 g4 g5 e
    obtain ⟨ob2, l2, k1, _, k3, k4, k5, _, _⟩ := hold o' ob' g2 g3
    rw [g5] at k5; cases k5
    obtain ⟨l1, m1, _, _, m4⟩ := d.puts o ob g1
    rw [g4] at m1; cases m1
    rcases m4 with ⟨m5, _⟩ | ⟨o0, ob0, l0, n1, n2, n3, n4⟩
    · have := (h.own o' ob2 l' k1 k4).2.1
      omega
    · obtain ⟨ob0', n1', _⟩ := h0 o0 ob0 n1
      have := h.inj o0 o' ob0' ob2 l0 l' n1' k1 n2 k4 (n3.trans e)
      subst this
      rcases n4 with ⟨rfl, _⟩ | ⟨n5, _⟩
      · rw [g1] at g2; cases g2
      · rw [n5] at k3; cases k3
  have hkn : ∀ b, b < X.κ.n0 → Same w w' b := fun b hb => d.same b (Nat.lt_of_lt_of_le hb (Nat.le_trans h.know.2.1 h.low)) fun o ob l h1 _ h3 e => by
    obtain ⟨ob', h1', _⟩ := h0 o ob h1
    have h4 := (h.own o ob' l h1' h3).2.2
    cases hp : parLen ob' with
    | none => rw [hp] at h4; have := Nat.le_trans h.know.2.1 h4; omega
    | some n => rw [hp] at h4; have := h.know.2.2.1 _ h4; simp only at this; omega
  refine ⟨?_, ?_, ?_, ?_, fun b hb => Nat.lt_of_lt_of_le (h.lt b hb) d.size, Nat.le_trans h.low d.size, X.κ.keeps _ _ h.know.1 d.size hkn, h.know.2⟩
  · intro t
    have e1 : ∀ (v : V) (σ : St) t, (set dst v σ).env t = if dst = some t then v else σ.env t := by
      intro v σ t
      cases dst with
      | none => simp [set]
      | some d' => simp only [set, upd]; by_cases e : t = d' <;> simp [e, eq_comm]
    have e2 : (a.put dst u).tmps.getD t Go.undef = if dst = some t then u else a.tmps.getD t Go.undef := by
      cases hdst : dst with
      | none => simp [Act.put]
      | some d' =>
        have hlt := hd d' hdst
        simp only [Act.put, Array.getD_eq_getD_getElem?, Array.getElem?_setIfInBounds]
        by_cases e : d' = t
        · subst e; simp [hlt]
        · simp [e]
    rw [applyD, e1, e2, env_insertAll]
    by_cases e : dst = some t
    · rw [if_pos e, if_pos e]; exact d.val
    · rw [if_neg e, if_neg e]; exact VRel.kill hks d.shape hI (h.env t)
  · intro o ob hob
    rw [hobj] at hob
    cases hp : lookP r.puts o with
    | some x =>
      rw [hp] at hob; cases hob
      obtain ⟨l, h1, h2, _⟩ := d.puts o _ hp
      exact ⟨l, h1, h2⟩
    | none =>
      rw [hp] at hob
      obtain ⟨ob', l, _, rfl, _, _, h5, h6, h7⟩ := hold o ob hp hob
      exact ⟨l, h5, ObRel.kill hks d.shape hI h7 h6⟩
  · intro o o' ob ob' l l' h1 h2 h3 h4 e
    rw [hobj] at h1 h2
    cases hp : lookP r.puts o with
    | some x =>
      cases hp' : lookP r.puts o' with
      | some x' => exact d.inj o o' x x' l l' hp hp' h3 h4 e
      | none => rw [hp'] at h2; exact (hmix o o' x ob' l l' hp hp' h2 h3 h4 e).elim
    | none =>
      cases hp' : lookP r.puts o' with
      | some x' => rw [hp] at h1; exact (hmix o' o x' ob l' l hp' hp h1 h4 h3 e.symm).elim
      | none =>
        rw [hp] at h1; rw [hp'] at h2
        obtain ⟨ob1, l1, k1, _, _, k4, k5, _⟩ := hold o ob hp h1
        obtain ⟨ob2, l2, k1', _, _, k4', k5', _⟩ := hold o' ob' hp' h2
        rw [h3] at k5; cases k5
        rw [h4] at k5'; cases k5'
        exact h.inj o o' ob1 ob2 l l' k1 k1' k4 k4' e
  · intro o ob l h1 h2
    rw [hobj] at h1
    cases hp : lookP r.puts o with
    | some x =>
      rw [hp] at h1; cases h1
      obtain ⟨l1, m1, _, m3, m4⟩ := d.puts o _ hp
      rw [h2] at m1; cases m1
      rcases m4 with ⟨m5, m6⟩ | ⟨o0, ob0, l0, n1, n2, n3, n4⟩
      · refine ⟨fun hi => ?_, m3, ?_⟩
        · have := h.lt _ hi; omega
        · rw [m6]; exact Nat.le_trans h.low m5
      · obtain ⟨ob0', n1', n1''⟩ := h0 o0 ob0 n1
        obtain ⟨k1, _, k3⟩ := h.own o0 ob0' l0 n1' n2
        refine ⟨n3 ▸ k1, m3, ?_⟩
        rcases n4 with ⟨rfl, rfl, n5⟩ | ⟨_, n6, n7⟩
        · rw [n5, ← n1'']; exact k3
        · rw [n7]
          rw [n1'', n6] at k3
          exact n3 ▸ k3
    | none =>
      rw [hp] at h1
      obtain ⟨ob', l1, k1, rfl, _, k4, k5, _⟩ := hold o ob hp h1
      rw [h2] at k5; cases k5
      obtain ⟨g1, g2, g3⟩ := h.own o ob' l k1 k4
      exact ⟨g1, Nat.lt_of_lt_of_le g2 d.size, by rw [parLen_kill]; exact g3⟩
structure Apart (M : List Reg) (w0 : World) : Prop where
  lt : ∀ m ∈ M, m.1 < w0.heap.size
  one : ∀ m ∈ M, ∀ m' ∈ M, m.1 = m'.1 → m = m'
theorem Left.step {X : Cx} {B : Nat} {M : List Reg} {φ φ' : Nat → Option Loc} {σ σ0 : St} {a : Act} {w0 w w' : World} {r : Dl} {u : Value}
    (hl : Left M w0 w) (hB : B = w0.heap.size) (hM : Apart M w0) (h : Rel X B M φ σ a w) (d : Does X σ0 r φ φ' w w' u) (h0 : ∀ o ob, σ0.objs o = some ob → ∃ ob', σ.objs o = some ob' ∧ parLen ob' = parLen ob)
    (hk : noPar σ r.kills = true) : Left M w0 w' := by
  subst hB
  have hlow : ∀ o ob l, σ0.objs o = some ob → φ o = some l → l.1 < w0.heap.size → ∃ n, parLen ob = some n ∧ (l.1, l.2, n) ∈ M := by
    intro o ob l h1 h2 h3
    obtain ⟨ob', h1', h1''⟩ := h0 o ob h1
    have := (h.own o ob' l h1' h2).2.2
    rw [h1''] at this
    cases hp : parLen ob with
    | some n => rw [hp] at this; exact ⟨n, rfl, this⟩
    | none => rw [hp] at this; have : w0.heap.size ≤ l.1 := this; omega
  have hnk : ∀ o ob n, σ0.objs o = some ob → parLen ob = some n → r.kills.contains o = false := by
    intro o ob n h1 h2
    obtain ⟨ob', h1', h1''⟩ := h0 o ob h1
    cases hc : r.kills.contains o with
    | false => rfl
    | true =>
      have := List.all_eq_true.1 hk o (by simpa using hc)
      rw [h1'] at this
      rw [h2] at h1''
      cases ob' with
      | flat p cs => cases p <;> simp_all [parLen]
      | var x => simp [parLen] at h1''
      | map ks es => simp [parLen] at h1''
      | row xs => simp [parLen] at h1''
  refine ⟨d.os.trans hl.os, d.tape.trans hl.tape, d.output.trans hl.output, Nat.le_trans hl.size d.size, ?_, ?_, ?_⟩
  · intro b c T fz hb
    obtain ⟨c', h1, h2⟩ := hl.shape b c T fz hb
    obtain ⟨c'', h3, h4⟩ := d.shape b c' T fz h1
    exact ⟨c'', h3, h4.trans h2⟩
  · intro b hb hM
    refine (d.same b (Nat.lt_of_lt_of_le hb hl.size) fun o ob l h1 _ h3 e => ?_).trans (hl.same b hb hM)
    obtain ⟨n, _, hm⟩ := hlow o ob l h1 h3 (by omega)
    exact hM _ hm e
  · intro m hm k hk'
    refine Eq.trans ?_ (hl.out m hm k hk')
    have hmlt := hM.lt m hm
    -- is there an object of this block that is written?
    by_cases hex : ∃ o ob l, σ0.objs o = some ob ∧ (lookP r.puts o).isSome = true ∧ φ o = some l ∧ l.1 = m.1
    · obtain ⟨o, ob, l, h1, h2, h3, h4⟩ := hex
      obtain ⟨n, hn, hm'⟩ := hlow o ob l h1 h3 (by omega)
      have e := hM.one _ hm' m hm h4
      obtain ⟨ob2, h2'⟩ := Option.isSome_iff_exists.1 h2
      have hnko := hnk o ob n h1 hn
      obtain ⟨l2, p1, _, _, p4⟩ := d.puts o ob2 h2'
      rw [d.phi o hnko, h3] at p1; cases p1
      have hpl : parLen ob2 = some n := by
        rcases p4 with ⟨p5, _⟩ | ⟨o0, ob0, l0, q1, q2, q3, q4⟩
        · have := hl.size; omega
        · obtain ⟨ob', h1', _⟩ := h0 o ob h1
          obtain ⟨ob0', q1', _⟩ := h0 o0 ob0 q1
          have := h.inj o0 o _ _ l0 l q1' h1' q2 h3 q3
          subst this
          rw [h1] at q1; cases q1
          rcases q4 with ⟨_, _, q5⟩ | ⟨q5, _⟩
          · rw [q5, hn]
          · rw [q5] at hnko; cases hnko
      have := d.out o ob2 n l h2' hpl h3 k (by rw [← e] at hk'; exact hk')
      rw [← h4]; exact this
    · refine World.cell?_of_block (a := ⟨m.1, k, none⟩) (d.same m.1 (Nat.lt_of_lt_of_le hmlt hl.size) fun o ob l h1 h2 h3 e => hex ⟨o, ob, l, h1, h2, h3, e⟩)
theorem Left.refl (M : List Reg) (w : World) : Left M w w :=
  ⟨rfl, rfl, rfl, Nat.le_refl _, fun _ c _ _ hb => ⟨c, hb, rfl⟩, fun _ _ _ => rfl, fun _ _ _ _ => rfl⟩
end Go.DM
