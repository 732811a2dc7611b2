/- append, clear. -/
import Derived.Test.YtimkdadlmolnaaaGreatDoorK402SimE
set_option linter.unusedSectionVars false
set_option linter.unusedSimpArgs false
set_option linter.unusedVariables false
namespace Go.DM
variable [Tok]
section
variable {P : Program} {X : Cx} {φ : Nat → Option Loc} {w : World} {σ : St} {a : Act}
theorem range_append {b base : Nat} {cs xs : List S} (h : w.rangeAt b base (encs cs)) (ht : w.there b (base + cs.length) xs.length) :
    (w.setCells b (base + cs.length) (encs xs)).rangeAt b base (encs (cs ++ xs)) := fun j v hv => by
  rw [encs_append] at hv
  by_cases h1 : j < cs.length
  · rw [List.getElem?_append_left (by rw [encs_length]; exact h1)] at hv
    rw [World.cell?_setCells_out b _ _ _ _ (fun _ _ => Or.inl (by show base + j < base + cs.length; omega))]
    exact h j v hv
  · rw [List.getElem?_append_right (by rw [encs_length]; omega), encs_length] at hv
    have hj : j - cs.length < (encs xs).length := (List.getElem?_eq_some_iff.1 hv).1
    have := World.cell?_setCells_in b (encs xs) (base + cs.length) w (fun i hi => (ht i (by simpa [encs] using hi)).1) (j - cs.length) hj
    rw [show base + cs.length + (j - cs.length) = base + j by omega] at this
    rw [this, ← hv, List.getElem?_eq_getElem]
theorem src_of {es m : Nat} {tx : TypeId} {x : Value} {ys : List S} (hk : (sliceOf P tx).isSome = true ∨ isStr P tx = true) (hl : ys.length = m * es)
    (hc : (∃ p c, x = .slice (some p) m c ∧ p.spot = none ∧ w.rangeAt p.block p.off (encs ys) ∧ ys ≠ []) ∨ (∃ p c, x = .slice p m c ∧ ys = [] ∧ (m = 0 ∨ es = 0)) ∨ (∃ s : List UInt8, x = .string ⟨s.toArray⟩ ∧ es = 1 ∧ m = s.length ∧ ys = s.map fun b => .int .u8 b.toNat))
    (h0 : es ≠ 0) (hkind : (∃ s : List UInt8, x = .string ⟨s.toArray⟩) → True) : Src P es tx x m (encs ys) w := by
  have hk' : (∃ e', P.underlying tx = some (.slice e')) ∨ P.underlying tx = some .string := by
    rcases hk with h | h
    · obtain ⟨e, he⟩ := Option.isSome_iff_exists.1 h
      exact .inl ⟨e, sliceOf_eq he⟩
    · exact .inr (isStr_eq h)
  rcases hc with ⟨⟨pb, po, ps⟩, c, rfl, hp, hr, _⟩ | ⟨p, c, rfl, rfl, hm⟩ | ⟨s, rfl, rfl, rfl, rfl⟩
  · simp only at hp hr
    subst hp
    have hcell : ∀ w' : World, w'.heap = w.heap → ∀ j v, (encs ys)[j]? = some v → w'.cell? ((⟨pb, po, none⟩ : Addr).add j) = some v := fun w' e j v hj => by
      rw [Addr.add_mid, ← hr j v hj]
      simp [World.cell?, e]
    exact ⟨hk', fun _ => rfl, run_firstCells_some w es m _ m c _ (by rw [encs_length]; exact hl) (hcell w rfl), run_firstCells_some w.drew es m _ m c _ (by rw [encs_length]; exact hl) (hcell w.drew rfl), by rw [encs_length]; exact hl, oneCell_encs⟩
  · obtain rfl : m = 0 := by
      rcases hm with h | h
      · exact h
      · exact (h0 h).elim
    have : ∀ w' : World, (Builtin.firstCells es 0 (.slice p 0 c)).run P w' = .ok (encs []).toArray w' := fun w' => by
      cases p with
      | none => exact run_firstCells_none w' es 0 0 c
      | some p => exact run_firstCells_some w' es 0 p 0 c [] (by simp) (fun j v hv => by simp at hv)
    exact ⟨hk', fun _ => rfl, this w, this w.drew, by simp [encs], fun u hu => by simp [encs] at hu⟩
  · have hb : byteCells ⟨s.toArray⟩ = encs (s.map fun b => .int .u8 b.toNat) := by
      simp [byteCells, encs, enc_int]
    have hsz : (⟨s.toArray⟩ : ByteArray).size = s.length := rfl
    refine ⟨hk', fun _ => rfl, ?_, ?_, ?_, oneCell_encs⟩
    · rw [← hb]; exact firstCells_string ⟨s.toArray⟩ w
    · rw [← hb]; exact firstCells_string ⟨s.toArray⟩ w.drew
    · simp [encs]
theorem append_sim {B : Nat} {M : List Reg} (h : Rel X B M φ σ a w) {T T' ty e : TypeId} {i : TypeInfo} {z : Value} {es : Nat} {x y : V} {u v : Value} {dst : Option Nat} {r : Dl}
    (he : sliceOf P T = some e) (hi : P.info? e = some i) (hz : i.zero = some z) (hsz : sizeIs P e es = true) (hzs : z.cells.size = es) (h0 : es ≠ 0) (hby : bytesOk P e es = true)
    (hk : (sliceOf P T').isSome = true ∨ isStr P T' = true) (hx : VRel X φ w x u) (hy : VRel X φ w y v) (hr : append σ dst es x y = some r) :
    ∃ z' w', (Builtin.append_ #[T, T'] ty #[u, v]).run P w = .ok z' w' ∧ ∃ φ', Does X σ r φ φ' w w' z' := by
  have hu := sliceOf_eq he
  have hsize : i.size = es := by
    have := sizeIs_eq hsz
    rw [hi] at this
    simpa using this
  have hbytes : i.bytes ≤ 16 * (es + 1) := by
    unfold bytesOk at hby
    rw [hi] at hby
    simpa using hby
  unfold append at hr
  split at hr
  · cases hr
  · rename_i m ys hel
    obtain ⟨hyl, hc⟩ := elems_sim h.base hy hel
    have hsrc := src_of (P := P) (tx := T') hk hyl hc h0 (fun _ => trivial)
    have hfit : ∀ n sc : Nat, sc < n + m → (n + m) * (es + 1) ≤ big → Builtin.nextslicecap (n + m) sc * i.bytes ≤ 281474976710656 ∧ ((n + m : Nat) : Int) ≤ 9223372036854775807 := by
      intro n sc hlt hb
      have h1 : (n + m) * i.bytes ≤ 17179869184 := by
        have h2 := Nat.mul_le_mul_left (n + m) hbytes
        have h3 : (n + m) * (16 * (es + 1)) = 16 * ((n + m) * (es + 1)) := by
          rw [Nat.mul_left_comm]
        simp only [big] at hb
        omega
      have h4 : n + m ≤ big := Nat.le_trans (Nat.le_mul_of_pos_right _ (by omega)) hb
      simp only [big] at h4
      exact ⟨growslice_fits hlt (by omega), by omega⟩
    split at hr
    · -- of the call's own
      rename_i o off n es'
      split at hr
      · rename_i cs hob
        split at hr
        · rename_i hcond
          obtain ⟨rfl, hle, hb⟩ := hcond
          cases hr
          obtain ⟨l, ad, cap, g1, rfl, g3, g4, g5⟩ := hx
          obtain ⟨l', g1', hobr⟩ := h.objs o _ hob
          rw [g1] at g1'; cases g1'
          obtain ⟨hnI, hlt, hown⟩ := h.own o _ l hob g1
          obtain ⟨c, T0, fz, hblk, hcl, hrng⟩ := hobr
          obtain ⟨c5, T5, fz5, hb5, hroom⟩ := g5
          rw [hblk.1] at hb5
          cases hb5
          have holds : w.rangeAt l.1 (l.2 + off) (encs ((cs.drop off).take (n * es))) := rangeAt_sub hrng off (n * es)
          have hol : ((cs.drop off).take (n * es)).length = n * es := by rw [List.length_take, List.length_drop]; omega
          by_cases hfits : n + m ≤ cap
          · -- there is room
            by_cases hcap : cap = 0
            · -- nothing at all
              subst hcap
              obtain rfl : n = 0 := by omega
              obtain rfl : m = 0 := by omega
              have hys : ys = [] := List.eq_nil_of_length_eq_zero (by simpa using hyl)
              subst hys
              have hrun := run_append_room_src (P := P) w T T' ty e i hu hi l.1 ad 0 0 v 0 (encs []) (by rw [hsize]; exact hsrc) (by omega) (fun j hj => by simp [encs] at hj) (fun j hj => by simp [encs] at hj)
              refine ⟨_, _, hrun, upd φ o (some (l.1, l.2 + off)), ?_⟩
              have hw : w.setCells l.1 (ad + 0 * i.size) (encs []) = w := rfl
              rw [hw]
              refine ⟨rfl, rfl, rfl, Nat.le_refl _, Shape.refl w, fun o' ho' => ?_, fun _ _ _ => rfl, fun o' ob' h1 => ?_, fun o1 o2 _ _ _ _ h1 h2 _ _ _ => ?_, ?_, fun o' ob' n' l' h1 h2 _ => ?_⟩
              · have : o' ≠ o := by simpa using ho'
                simp [upd, this]
              · obtain ⟨rfl, rfl⟩ := lookP_one h1
                refine ⟨(l.1, l.2 + off), by simp [upd], ⟨c, T0, fz, hblk, by simp; omega, fun j v hv => by simp [encs] at hv⟩, hlt, .inr ⟨o', _, l, hob, g1, rfl, .inr ⟨by simp, rfl, rfl⟩⟩⟩
              · rw [(lookP_one h1).1, (lookP_one h2).1]
              · exact ⟨(l.1, l.2 + off), ad, 0, by simp [upd], rfl, by omega, fun h => by omega, ⟨c, T0, fz, hblk.1, by simp; omega⟩⟩
              · obtain ⟨rfl, rfl⟩ := lookP_one h1
                cases h2
            · have had := g4 hcap
              subst had
              have hmul : (n + m) * es ≤ cap * es := Nat.mul_le_mul_right es hfits
              rw [Nat.add_mul] at hmul
              have hth : w.there l.1 (l.2 + off + n * es) ys.length := blk_there hblk (by omega)
              have hrun := run_append_room_src (P := P) w T T' ty e i hu hi l.1 (l.2 + off) n cap v m (encs ys) (by rw [hsize]; exact hsrc) hfits
                (fun j hj => by rw [hsize]; exact (hth j (by simpa [encs] using hj)).1) (fun j hj => by rw [hsize]; exact (hth j (by simpa [encs] using hj)).2)
              rw [hsize] at hrun
              refine ⟨_, _, hrun, upd φ o (some (l.1, l.2 + off)), ?_⟩
              obtain ⟨k1, k2, k3, k4, _⟩ := setCells_keep l.1 (encs ys) (l.2 + off + n * es) w
              have hsh := setCells_shape l.1 (encs ys) (l.2 + off + n * es) w
              obtain ⟨c', q1, q2⟩ := blk_keep hblk hsh
              refine ⟨k1, k2, k3, by omega, hsh, fun o' ho' => ?_, fun b _ hb' => ?_, fun o' ob' h1 => ?_, fun o1 o2 _ _ _ _ h1 h2 _ _ _ => ?_, ?_, fun o' ob' n' l' h1 h2 _ => ?_⟩
              · have : o' ≠ o := by simpa using ho'
                simp [upd, this]
              · exact setCells_other l.1 (encs ys) _ w b (fun e => hb' o _ l hob (by simp [lookP]) g1 e.symm)
              · obtain ⟨rfl, rfl⟩ := lookP_one h1
                refine ⟨(l.1, l.2 + off), by simp [upd], ⟨c', T0, fz, q1, ?_, ?_⟩, by show l.1 < _; omega, .inr ⟨o', _, l, hob, g1, rfl, .inr ⟨by simp, rfl, rfl⟩⟩⟩
                · rw [List.length_append, hol]
                  show l.2 + off + _ ≤ _
                  omega
                · have := range_append (xs := ys) holds (by rw [hol]; exact hth)
                  rw [hol] at this
                  exact this
              · rw [(lookP_one h1).1, (lookP_one h2).1]
              · exact ⟨(l.1, l.2 + off), l.2 + off, cap, by simp [upd], rfl, hfits, fun _ => rfl, ⟨c', T0, fz, q1.1, by show l.2 + off + 0 + cap * es ≤ _; omega⟩⟩
              · obtain ⟨rfl, rfl⟩ := lookP_one h1
                cases h2
          · -- there is none
            have hlt' : cap < n + m := by omega
            obtain ⟨hf1, hf2⟩ := hfit n cap hlt' hb
            have hold : (Builtin.firstCells i.size n (.slice (some ⟨l.1, ad, none⟩) n cap)).run P w.drew = .ok (encs ((cs.drop off).take (n * es))).toArray w.drew := by
              rw [hsize]
              refine run_firstCells_some w.drew es n _ n cap _ (by rw [encs_length]; exact hol) (fun j v hv => ?_)
              rw [Addr.add_mid]
              have hj := (List.getElem?_eq_some_iff.1 hv).1
              rw [encs_length, hol] at hj
              have : cap ≠ 0 := by
                intro h0'
                subst h0'
                obtain rfl : n = 0 := by omega
                simp at hj
              rw [g4 this]
              exact holds j v hv
            have hrun := run_append_grow_src (P := P) w T T' ty e i z hu hi hz (some ⟨l.1, ad, none⟩) n cap (encs ((cs.drop off).take (n * es))) hold v m (encs ys) (by rw [hsize]; exact hsrc) hlt' hf2 hf1
            have hge := grownCap_ge w (n + m) cap e
            have hcells : (encs ((cs.drop off).take (n * es)) ++ encs ys).toArray ++ Builtin.zeroCells z.cells (grownCap w (n + m) cap e - (n + m)) = (encs ((cs.drop off).take (n * es) ++ ys) ++ (Builtin.zeroCells z.cells (grownCap w (n + m) cap e - (n + m))).toList).toArray := by
              apply Array.ext'
              simp [encs_append]
            rw [hcells] at hrun
            have hm := More.drew w (.cells (encs ((cs.drop off).take (n * es) ++ ys) ++ (Builtin.zeroCells z.cells (grownCap w (n + m) cap e - (n + m))).toList).toArray e)
            refine ⟨_, _, hrun, _, Does.fresh hm rfl (flat_new hm) ?_⟩
            refine ⟨(w.heap.size, 0), 0, grownCap w (n + m) cap e, by simp [upd], rfl, hge, fun _ => rfl, room_new hm ?_⟩
            simp only [List.size_toArray, List.length_append, encs_length, hol, hyl, Array.length_toList, size_zeroCells, hzs]
            rw [← Nat.add_mul, ← Nat.add_mul]
            show 0 + 0 + _ ≤ _
            rw [Nat.add_sub_cancel' hge]
            omega
        · cases hr
      · cases hr
    · -- nil
      rw [sv_rel hx, enc_nils]
      split at hr
      · rename_i hm0
        subst hm0
        cases hr
        have hys : ys = [] := List.eq_nil_of_length_eq_zero (by simpa using hyl)
        subst hys
        refine ⟨.slice none 0 0, w, ?_, φ, Does.quiet (sv_mk _)⟩
        have hs := hsrc
        rcases hs.kind with ⟨e', hk⟩ | hk <;> simp [Builtin.append_, run_underlying hu, run_underlying hk, run_sizeOf' hsz, hs.len, hs.cells]
      · rename_i hm0
        split at hr
        · rename_i hb
          cases dst with
          | none => cases hr
          | some d =>
            simp only [Option.map_some, Option.some.injEq] at hr
            subst hr
            obtain ⟨hf1, hf2⟩ := hfit 0 0 (by omega) (by simpa using hb)
            have hrun := run_append_grow_src (P := P) w T T' ty e i z hu hi hz none 0 0 [] (run_firstCells_none w.drew i.size 0 0 0) v m (encs ys) (by rw [hsize]; exact hsrc) (by omega) hf2 hf1
            have hge := grownCap_ge w (0 + m) 0 e
            have hcells : ([] ++ encs ys).toArray ++ Builtin.zeroCells z.cells (grownCap w (0 + m) 0 e - (0 + m)) = (encs ys ++ (Builtin.zeroCells z.cells (grownCap w (0 + m) 0 e - (0 + m))).toList).toArray := by
              apply Array.ext'
              simp
            rw [hcells] at hrun
            have hm := More.drew w (.cells (encs ys ++ (Builtin.zeroCells z.cells (grownCap w (0 + m) 0 e - (0 + m))).toList).toArray e)
            refine ⟨_, _, hrun, _, Does.fresh hm rfl (flat_new hm) ?_⟩
            refine ⟨(w.heap.size, 0), 0, grownCap w (0 + m) 0 e, by simp [upd], by simp, by omega, fun _ => rfl, room_new hm ?_⟩
            simp only [List.size_toArray, List.length_append, encs_length, hyl, Array.length_toList, size_zeroCells, hzs]
            rw [← Nat.add_mul]
            show 0 + 0 + _ ≤ _
            simp only [Nat.zero_add] at hge ⊢
            rw [Nat.add_sub_cancel' hge]
            omega
        · cases hr
    · cases hr
end
end Go.DM
