/- Maps whose keys are rows of plain cells: looking a key up, writing one. -/
import Derived.Test.YtgbifpijjfolbaaGreatK441SimB
import Derived.WideKeyRuns
import Derived.Laws.BytesString
set_option linter.all false
namespace Go.DM
variable [Tok]
section
variable {P : Program} {X : Cx} {φ : Nat → Option Loc} {w : World} {σ : St} {a : Act}
theorem checkF {g : TypeId → Option (List SK)} {em : Bool} {n : Nat}
    (hg : ∀ t ks, g t = some ks → ∃ agg, rowIs P t agg = true ∧ sizeIs P t ks.length = true ∧ (agg = true ∨ ks.length = 1) ∧ ∀ xs w, hasKs ks xs = true → (Instr.checkKey em n t (rep agg xs)).run P w = .ok () w) :
    ∀ (fs : List Field) (acc ks : List SK), kindsF g fs acc = some ks → ∃ ls, ks = acc ++ ls ∧
      ∀ (cx : List S) (w : World), cx.length = ks.length → hasKs ls (cx.drop acc.length) = true → ∀ (f0 : Field → PUnit → Sem (ForInStep PUnit)),
        (∀ f, f.name ≠ "_" → ∀ v w, (part f.type (encs cx).toArray f.offset).run P w = .ok v w → (Instr.checkKey em n f.type v).run P w = .ok () w → (f0 f ⟨⟩).run P w = .ok (.yield ⟨⟩) w) →
        (forIn fs PUnit.unit f0).run P w = .ok ⟨⟩ w
  | [], acc, ks, h => by
    cases h
    exact ⟨[], by simp, fun cx w _ _ f0 _ => by simp⟩
  | f :: fs, acc, ks, h => by
    simp only [kindsF] at h
    split at h
    · cases h
    · rename_i hn
      rw [obs] at h
      obtain ⟨k1, h1, h2⟩ := h
      obtain ⟨ls, h3, h4⟩ := checkF hg fs (acc ++ k1) ks h2
      obtain ⟨agg, g1, g2, g3, g4⟩ := hg _ _ h1
      have hname : f.name ≠ "_" := fun e => hn (.inl e)
      have hoff : f.offset = acc.length := by
        by_cases e : f.offset = acc.length
        · exact e
        · exact (hn (.inr e)).elim
      refine ⟨k1 ++ ls, by rw [h3, List.append_assoc], fun cx w hx kx f0 hf0 => ?_⟩
      have hlen : acc.length + k1.length ≤ ks.length := by rw [h3]; simp
      obtain ⟨kx1, kx2⟩ := hasKs_append kx
      have e1 : (cx.drop acc.length).drop k1.length = cx.drop (acc ++ k1).length := by rw [List.drop_drop, List.length_append]
      have := hf0 f hname _ w (by rw [hoff]; exact run_part (cs := cx) (off := acc.length) g1 g2 g3 (by omega) w) (g4 _ w kx1)
      simp only [List.forIn_cons, Sem.run_bind, this, Result.andThen_ok]
      exact h4 cx w hx (e1 ▸ kx2) f0 hf0
theorem rowIs_eq {t : TypeId} {a b : Bool} (h : rowIs P t a = true) (g : rowIs P t b = true) : a = b := by
  unfold rowIs at h g
  split at h
  · rename_i hu
    rw [hu] at g
    rw [← eq_of_beq h, ← eq_of_beq g]
  · cases h
theorem checkKinds (em : Bool) : ∀ (d n : Nat), d ≤ n → ∀ t ks, kindsOf P d t = some ks → ∃ agg, rowIs P t agg = true ∧ sizeIs P t ks.length = true ∧ (agg = true ∨ ks.length = 1) ∧
    ∀ xs w, hasKs ks xs = true → (Instr.checkKey em n t (rep agg xs)).run P w = .ok () w
  | 0, _, _, t, ks, h => by simp [kindsOf] at h
  | d + 1, 0, hn, _, _, _ => by omega
  | d + 1, n + 1, hn, t, ks, h => by
    unfold kindsOf at h
    split at h
    · rename_i hu
      split at h
      · rename_i hs
        cases h
        refine ⟨false, by simp [rowIs, hu], hs, .inr rfl, fun xs w hx => ?_⟩
        obtain ⟨x, rfl, h1⟩ := hasKs_one hx
        cases x <;> simp [hasK] at h1
        simp [rep, enc, Instr.checkKey, run_underlying hu]
      · cases h
    · rename_i k hu
      split at h
      · rename_i hs
        cases h
        refine ⟨false, by simp [rowIs, hu], hs, .inr rfl, fun xs w hx => ?_⟩
        obtain ⟨x, rfl, h1⟩ := hasKs_one hx
        cases x <;> simp [hasK] at h1
        simp [rep, enc, Instr.checkKey, run_underlying hu]
      · cases h
    · rename_i hu
      split at h
      · rename_i hs
        cases h
        refine ⟨false, by simp [rowIs, hu], hs, .inr rfl, fun xs w hx => ?_⟩
        obtain ⟨x, rfl, h1⟩ := hasKs_one hx
        cases x <;> simp [hasK] at h1
        simp [rep, enc, Instr.checkKey, run_underlying hu]
      · cases h
    · rename_i fs hu
      split at h
      · cases h
      · rw [obs] at h
        obtain ⟨ks', h1, h2⟩ := h
        split at h2
        · rename_i hs
          cases h2
          obtain ⟨ls, h3, h4⟩ := checkF (P := P) (em := em) (n := n) (fun t ks h => checkKinds em d n (by omega) t ks h) fs.toList [] ks h1
          simp only [List.nil_append] at h3
          subst h3
          refine ⟨true, by simp [rowIs, hu], hs, .inl rfl, fun xs w hx => ?_⟩
          simp only [rep, if_true]
          unfold Instr.checkKey
          simp only [Sem.run_bind, run_underlying hu, Result.andThen_ok]
          rw [← Array.forIn_toList]
          have := h4 xs w (hasKs_length hx) hx
          refine (congrArg (fun r => Result.andThen r _) (this _ fun f hf v w' hv hc => ?_)).trans ?_
          · simp [hf, hv, hc]
          · simp
        · cases h2
    · cases h
theorem rep_rep1 {agg : Bool} {ks : List SK} {xs : List S} (hk : hasKs ks xs = true) (ha : agg = (ks.length != 1)) : rep agg xs = rep1 xs := by
  have hl := hasKs_length hk
  subst ha
  by_cases h : ks.length = 1
  · rw [h] at hl
    match xs, hl with
    | [x], _ => simp [rep, rep1, h]
  · simp only [rep, rep1, show (ks.length != 1) = true by simpa using h, if_true]
    split
    · rename_i x
      simp at hl
      exact (h hl.symm).elim
    · rfl
theorem findAsking_sim {t : TypeId} {ks : List SK} {key : List S} (heq : ∀ xs ys w, hasKs ks xs = true → hasKs ks ys = true → (Op.equal t (rep1 xs) (rep1 ys)).run P w = .ok (eqSs xs ys) w) (hk : hasKs ks key = true) :
    ∀ (ents : List MapEntry) (es : List (List S × List S)) (i : Nat), ents.map (fun e => (e.key, e.val)) = es.map (fun p => (rep1 p.1, rep1 p.2)) → (∀ p ∈ es, hasKs ks p.1 = true) →
      ∃ r, (Instr.findAsking t (rep1 key) ents i).run P w = .ok r w ∧ ((mfind key es = none ∧ r = none ∧ ∀ v, mset key v es = es ++ [(key, v)]) ∨
        ∃ j k' u, r = some (i + j, rep1 u) ∧ mfind key es = some u ∧ es[j]? = some (k', u) ∧ eqSs key k' = true ∧ ∀ v, mset key v es = es.set j (key, v))
  | [], [], i, _, _ => ⟨none, by simp [Instr.findAsking], .inl ⟨rfl, rfl, fun v => rfl⟩⟩
  | [], _ :: _, _, h, _ => by simp at h
  | _ :: _, [], _, h, _ => by simp at h
  | e :: ents, (k', u) :: es, i, h, hks => by
    simp only [List.map_cons, List.cons.injEq, Prod.mk.injEq] at h
    obtain ⟨⟨h1, h2⟩, h3⟩ := h
    have hq := heq key k' w hk (hks _ (List.mem_cons_self ..))
    rw [← h1] at hq
    cases hb : eqSs key k' with
    | true =>
      rw [hb] at hq
      refine ⟨some (i, rep1 u), by simp [Instr.findAsking, hq, h2], .inr ⟨0, k', u, rfl, by simp [mfind, hb], rfl, hb, fun v => by simp [mset, hb]⟩⟩
    | false =>
      rw [hb] at hq
      obtain ⟨r, g1, g2⟩ := findAsking_sim heq hk ents es (i + 1) h3 (fun p hp => hks p (List.mem_cons_of_mem _ hp))
      refine ⟨r, by simp [Instr.findAsking, hq, g1], ?_⟩
      rcases g2 with ⟨e1, e2, e3⟩ | ⟨j, k2, u2, e1, e2, e3, e4, e5⟩
      · exact .inl ⟨by simp [mfind, hb, e1], e2, fun v => by simp [mset, hb, e3]⟩
      · exact .inr ⟨j + 1, k2, u2, by rw [e1]; congr 2; omega, by simp [mfind, hb, e2], by simpa using e3, e4, fun v => by simp [mset, hb, e5]⟩
theorem bytes_beq (a : ByteArray) : (a == a) = true := by
  cases a with
  | mk d => exact (beq_self_eq_true d : (d == d) = true)
theorem sameBits_S : ∀ {k : SK} {x y : S} (n : Nat), hasK k x = true → hasK k y = true → eqS x y = true → Instr.sameBits (n + 1) (enc x) (enc y) = true ∧ enc x = enc y
  | k, x, y, n, hx, hy, h => by
    cases k <;> cases x <;> simp [hasK] at hx <;> cases y <;> simp [hasK] at hy <;> simp [eqS] at h <;> subst_vars <;> simp [enc, Instr.sameBits] <;> exact bytes_beq _
theorem sameBits_Ss : ∀ {ks : List SK} {xs ys : List S} (n : Nat), hasKs ks xs = true → hasKs ks ys = true → eqSs xs ys = true → encs xs = encs ys ∧ ((encs xs).zip (encs ys)).all (fun p => Instr.sameBits (n + 1) p.1 p.2) = true
  | [], [], [], n, _, _, _ => ⟨rfl, rfl⟩
  | k :: ks, x :: xs, y :: ys, n, hx, hy, h => by
    simp only [hasKs, eqSs, Bool.and_eq_true] at hx hy h
    obtain ⟨h1, h2⟩ := sameBits_S n hx.1 hy.1 h.1
    obtain ⟨h3, h4⟩ := sameBits_Ss n hx.2 hy.2 h.2
    simp only [encs] at h3 h4
    refine ⟨by simp [encs, h2, h3], ?_⟩
    simp only [encs, List.map_cons, List.zip_cons_cons, List.all_cons, h1, h4, Bool.and_self]
  | [], _ :: _, _, _, h, _, _ => by simp [hasKs] at h
  | [], [], _ :: _, _, _, h, _ => by simp [hasKs] at h
  | _ :: _, [], _, _, h, _, _ => by simp [hasKs] at h
  | _ :: _, _ :: _, [], _, _, h, _ => by simp [hasKs] at h
theorem sameBits_rep {ks : List SK} {xs ys : List S} (n : Nat) (hx : hasKs ks xs = true) (hy : hasKs ks ys = true) (h : eqSs xs ys = true) (hl : ks.length ≠ 1) : Instr.sameBits (n + 2) (rep1 ys) (rep1 xs) = true := by
  obtain ⟨h1, h2⟩ := sameBits_Ss n hx hy h
  have e1 : rep1 xs = .agg (encs xs).toArray := by
    have := hasKs_length hx
    unfold rep1
    split
    · simp at this; exact (hl this.symm).elim
    · rfl
  have e2 : rep1 ys = .agg (encs ys).toArray := by
    have := hasKs_length hy
    unfold rep1
    split
    · simp at this; exact (hl this.symm).elim
    · rfl
  rw [e1, e2]
  rw [h1] at h2
  simp only [Instr.sameBits, h1, beq_self_eq_true, Bool.true_and]
  exact h2
theorem okMap_spec {T : TypeId} {ks : List SK} {vn : Nat} (h : okMap P T ks vn = true) : ∃ k e, P.underlying T = some (.map k e) ∧ kindsOf P 20 k = some ks ∧ (∃ fs, P.underlying k = some (.struct fs)) ∧ ks.length ≠ 1 ∧ rowIs P e (vn != 1) = true := by
  unfold okMap mapTys at h
  split at h
  · rename_i k e hm
    split at hm
    · rename_i k' e' hu
      cases hm
      simp only [Bool.and_eq_true] at h
      obtain ⟨⟨⟨h1, h2⟩, h3⟩, h4⟩ := h
      refine ⟨k, e, hu, ?_, ?_, by simpa using h3, h4⟩
      · cases hko : kindsOf P 20 k with
        | none => rw [hko] at h1; simp [eqKs] at h1
        | some ks' => rw [hko] at h1; rw [eqKs_eq h1]
      · split at h2
        · exact ⟨_, by assumption⟩
        · cases h2
    · cases hm
  · cases h
theorem map_equal {k : TypeId} {ks : List SK} (hk : kindsOf P 20 k = some ks) (hs : ∃ fs, P.underlying k = some (.struct fs)) (hl : ks.length ≠ 1) :
    (∀ xs ys w, hasKs ks xs = true → hasKs ks ys = true → (Op.equal k (rep1 xs) (rep1 ys)).run P w = .ok (eqSs xs ys) w) ∧ (∀ em xs w, hasKs ks xs = true → (Instr.checkKey em 10000 k (rep1 xs)).run P w = .ok () w) := by
  obtain ⟨fs, hs⟩ := hs
  obtain ⟨agg, g1, g2, g3, g4⟩ := kindsOf_sim (P := P) 20 10000 (by omega) k _ hk
  have ea : agg = true := rowIs_eq g1 (by simp [rowIs, hs])
  have eb : agg = (ks.length != 1) := by rw [ea]; simpa using hl
  refine ⟨fun xs ys w hx hy => ?_, fun em xs w hx => ?_⟩
  · have := g4 xs ys w hx hy
    rw [rep_rep1 hx eb, rep_rep1 hy eb] at this
    exact this
  · obtain ⟨agg', f1, f2, f3, f4⟩ := checkKinds (P := P) em 20 10000 (by omega) k _ hk
    have ec : agg' = (ks.length != 1) := by rw [rowIs_eq f1 g1]; exact eb
    have := f4 xs w hx
    rwa [rep_rep1 hx ec] at this
theorem cellsA_rep1 {ks : List SK} {x : V} {cs : List S} {v : Value} (h : VRel X φ w x v) (hc : cellsA (ks.length != 1) x = some cs) (hk : hasKs ks cs = true) : v = rep1 cs := by
  rw [cellsA_rel h hc, rep_rep1 hk rfl]
theorem cellsA_rep1' {n : Nat} {x : V} {cs : List S} {v : Value} (h : VRel X φ w x v) (hc : cellsA (n != 1) x = some cs) (hl : cs.length = n) : v = rep1 cs := by
  have e := cellsA_rel h hc
  rw [e]
  by_cases h1 : n = 1
  · subst h1
    match cs, hl with
    | [x], _ => simp [rep, rep1]
  · simp only [rep, rep1, show (n != 1) = true by simpa using h1, if_true]
    split
    · simp at hl; exact (h1 hl.symm).elim
    · rfl
theorem ofCells_rep1 {n : Nat} {cs : List S} {r : V} (h : ofCells (n != 1) cs = some r) (hl : n = 1 ∨ cs.length ≠ 1) : VRel X φ w r (rep1 cs) := by
  unfold ofCells at h
  by_cases h1 : n = 1
  · subst h1
    simp at h
    split at h
    · cases h; exact sv_mk _
    · cases h
  · simp only [show (n != 1) = true by simpa using h1, if_true] at h
    cases h
    have : rep1 cs = .agg (encs cs).toArray := by
      unfold rep1
      split
      · rcases hl with h | h
        · exact (h1 h).elim
        · exact (h rfl).elim
      · rfl
    rw [this]
    exact av_mk cs
theorem zeroEq_run {t : TypeId} {zs : List S} (h : zeroEq P t zs = true) (w : World) : (zeroValue t).run P w = .ok (rep1 zs) w := by
  unfold zeroEq at h
  split at h
  · rename_i i hi
    split at h
    · rename_i c hz
      simp only [Bool.and_eq_true] at h
      have e := eqCs_eq h.2
      have : rep1 zs = .agg c := by
        unfold rep1
        split
        · simp at h
        · rw [← e]
      simp [zeroValue, typeInfo, hi, hz, this]
    · rename_i v hna hz
      split at h
      · rename_i x
        have e := eqC_eq h
        simp [zeroValue, typeInfo, hi, hz, rep1, e]
      · cases h
    · cases h
  · cases h
theorem mapOf_sim (b : Base X φ σ a w) {ks : List SK} {x : V} {u : Value} {es : List (List S × List S)} (hx : VRel X φ w x u) (h : mapOf σ.objs ks x = some es) :
    (∃ r, u = .map (some r) ∧ mapAt w r ks es) ∨ (u = .map none ∧ es = []) := by
  unfold mapOf at h
  split at h
  · rename_i o
    split at h
    · rename_i ks' es' hob
      split at h
      · rename_i hk
        subst hk
        cases h
        obtain ⟨l, g1, g2⟩ := hx
        obtain ⟨l', g1', g3⟩ := b.objs _ _ hob
        rw [g1] at g1'; cases g1'
        exact .inl ⟨l.1, g2, g3⟩
      · cases h
    · cases h
  · rename_i ks' es'
    split at h
    · rename_i hk
      subst hk
      cases h
      have hx : DRel _ _ _ _ _ := hx
      cases hx with
      | map _ _ r hI hr => exact .inl ⟨r, rfl, hr⟩
    · cases h
  · cases h
    exact .inr ⟨sv_rel hx, rfl⟩
  · cases h
theorem lookup_sim (b : Base X φ σ a w) {T : TypeId} {ks : List SK} {vn : Nat} {zv : List S} {ok : Bool} {x k r : V} {u v : Value} (hT : okMap P T ks vn = true) (hz : (match mapTys P T with | some (_, e) => zeroEq P e zv | none => false) = true)
    (hx : VRel X φ w x u) (hk : VRel X φ w k v)
    (h : ((mapOf σ.objs ks x).bind fun es => (cellsA (ks.length != 1) k).bind fun key =>
      if hasKs ks key && ((mfind key es).getD zv).length == vn then (match ofCells (vn != 1) ((mfind key es).getD zv) with
        | some (.a x) => some (if ok then V.tup [x, .d (.s (.bool (mfind key es).isSome))] else .a x)
        | _ => none) else none) = some r) :
    ∃ z, (Instr.lookup T u v ok).run P w = .ok z w ∧ VRel X φ w r z := by
  rw [obs] at h
  obtain ⟨es, h1, h⟩ := h
  rw [obs] at h
  obtain ⟨key, h2, h⟩ := h
  split at h
  · rename_i hc
    rw [Bool.and_eq_true] at hc
    obtain ⟨hc1, hc2⟩ := hc
    have hc2 := eq_of_beq hc2
    obtain ⟨kt, et, hu, hko, hst, hl, hre⟩ := okMap_spec hT
    obtain ⟨meq, mck⟩ := map_equal hko hst hl
    have ev' := cellsA_rep1 hk h2 hc1
    subst ev'
    have hz' : zeroEq P et zv = true := by simpa [mapTys, hu] using hz
    have z1 := zeroEq_run hz'
    -- the entries
    obtain ⟨ents, hget, hents, hkeys⟩ : ∃ ents : Array MapEntry, ((u = .map none ∧ ents = #[]) ∨ ∃ r clock, u = .map (some r) ∧ w.heap[r]? = some (.map ents clock)) ∧ ents.toList.map (fun e => (e.key, e.val)) = es.map (fun p => (rep1 p.1, rep1 p.2)) ∧ ∀ p ∈ es, hasKs ks p.1 = true := by
      rcases mapOf_sim b hx h1 with ⟨r0, rfl, ents, clock, g1, g2, g3, _⟩ | ⟨rfl, rfl⟩
      · exact ⟨ents, .inr ⟨r0, clock, rfl, g1⟩, g2, g3⟩
      · exact ⟨#[], .inl ⟨rfl, rfl⟩, rfl, fun p hp => by cases hp⟩
    obtain ⟨fr, hfr, hcase⟩ := findAsking_sim (P := P) (w := w) (t := kt) meq hc1 ents.toList es 0 hents hkeys
    have hfk : (Instr.findKey kt (rep1 key) ents.toList).run P w = .ok fr w := by
      rw [run_findKey_eq w (by obtain ⟨fs, hs⟩ := hst; simp [hs])]; exact hfr
    have hlk : (Instr.lookup T u (rep1 key) ok).run P w = (match fr with | some (_, v) => Result.ok (if ok then .tuple #[v, .bool true] else v) w | none => Result.ok (if ok then .tuple #[rep1 zv, .bool false] else rep1 zv) w) := by
      unfold Instr.lookup
      rcases hget with ⟨rfl, rfl⟩ | ⟨r, clock, rfl, g1⟩
      · simp only [Array.toList_empty] at hfk
        cases fr with
        | none => simp [run_underlying hu, mck, hc1, hfk, z1]
        | some p => simp [run_underlying hu, mck, hc1, hfk]
      · cases fr with
        | none => simp [run_underlying hu, mck, hc1, hfk, z1, MapKept.run_getObj_map g1]
        | some p => simp [run_underlying hu, mck, hc1, hfk, MapKept.run_getObj_map g1]
    split at h
    · rename_i y hy
      cases h
      rcases hcase with ⟨e1, rfl, _⟩ | ⟨j, k', uv, rfl, e2, _⟩
      · rw [e1] at hy ⊢
        simp only [Option.getD_none] at hy
        rw [e1, Option.getD_none] at hc2
        have hv0 : VRel X φ w (.a y) (rep1 zv) := ofCells_rep1 (n := vn) hy (by omega)
        refine ⟨_, hlk, ?_⟩
        cases ok with
        | true => exact ⟨[rep1 zv, .bool false], rfl, .cons hv0 (.cons (DRel.s (.bool false)) .nil)⟩
        | false => exact hv0
      · rw [e2] at hy ⊢
        simp only [Option.getD_some] at hy
        have hv0 : VRel X φ w (.a y) (rep1 uv) := ofCells_rep1 (n := vn) hy (by rw [e2, Option.getD_some] at hc2; omega)
        refine ⟨_, hlk, ?_⟩
        cases ok with
        | true => exact ⟨[rep1 uv, .bool true], rfl, .cons hv0 (.cons (DRel.s (.bool true)) .nil)⟩
        | false => exact hv0
    · cases h
  · cases h
end
end Go.DM

/- Every operation of the small machine that only computes or reads does what the program's own does. -/
namespace Go.DM
variable [Tok]
section
variable {P : Program} {X : Cx} {φ : Nat → Option Loc} {w : World} {σ : St} {a : Act}
theorem lenV_sim {k : SlK} {x : V} {n : Nat} {u : Value} {t t' : TypeId} (hx : VRel X φ w x u) (h : lenV k x = some n)
    (hk : match k with | .str => isStr P t = true | .sl _ => (sliceOf P t).isSome = true | .arr n _ => (∃ e, arrayOf P t = some (n, e)) | .mp _ => False) :
    (Builtin.len_ #[t] t' #[u]).run P w = .ok (.int .i64 n) w := by
  unfold lenV at h
  split at h
  · cases h
    rw [sv_rel hx]
    simp [Builtin.len_, run_underlying (isStr_eq hk), enc, goInt]
    rfl
  · cases h
    obtain ⟨e, he⟩ := Option.isSome_iff_exists.1 hk
    rw [sv_rel hx]
    simp [Builtin.len_, run_underlying (sliceOf_eq he), enc, goInt]
  · cases h
    obtain ⟨e, he⟩ := Option.isSome_iff_exists.1 hk
    rw [sv_rel hx]
    simp [Builtin.len_, run_underlying (sliceOf_eq he), enc, goInt]
  · cases h
    obtain ⟨e, he⟩ := Option.isSome_iff_exists.1 hk
    have hx : DRel _ _ _ _ _ := hx
    cases hx <;> simp [Builtin.len_, run_underlying (sliceOf_eq he), goInt]
  · cases h
    obtain ⟨e, he⟩ := Option.isSome_iff_exists.1 hk
    have hx : DRel _ _ _ _ _ := hx
    cases hx with
    | sld0 => simp [Builtin.len_, run_underlying (sliceOf_eq he), goInt]
    | sld _ _ _ _ _ _ _ _ hn => simp [Builtin.len_, run_underlying (sliceOf_eq he), goInt, hn]
  · cases h
    obtain ⟨e, he⟩ := Option.isSome_iff_exists.1 hk
    obtain ⟨l, ad, cap, _, rfl, _⟩ := hx
    simp [Builtin.len_, run_underlying (sliceOf_eq he), goInt]
  · cases h
    obtain ⟨e, he⟩ := hk
    simp [Builtin.len_, run_underlying (arrayOf_eq he), goInt]
  · cases h
theorem unop_sim {op : UnOp} {x r : V} {u : Value} (hx : VRel X φ w x u) (h : unop op x = some r) : ∃ z, (Op.unary op u).run P w = .ok z w ∧ VRel X φ w r z := by
  unfold unop at h
  split at h
  · cases h
    rw [sv_rel hx]
    exact ⟨_, rfl, sv_mk _⟩
  · cases h
    rw [sv_rel hx]
    exact ⟨_, rfl, sv_mk _⟩
  · cases h
theorem convInt_sim {s d : TypeId} {k : IntKind} {x r : V} {u : Value} (hx : VRel X φ w x u) (h : convInt k x = some r) (hd : P.underlying d = some (.int k)) (hs : (P.underlying s).isSome = true) :
    ∃ z, (convert s d u).run P w = .ok z w ∧ VRel X φ w r z := by
  unfold convInt at h
  split at h
  · cases h
    rw [sv_rel hx]
    obtain ⟨ds, hs⟩ := Option.isSome_iff_exists.1 hs
    refine ⟨_, ?_, sv_mk _⟩
    simp [convert, run_underlying hd, run_underlying hs, enc_int, Conv.intToInt]
  · cases h
theorem convSame_sim {s d : TypeId} {x r : V} {u : Value} (hx : VRel X φ w x u) (h : convSame x = some r) (hd : P.underlying d = some .string) (hs : P.underlying s = some .string) :
    ∃ z, (convert s d u).run P w = .ok z w ∧ VRel X φ w r z := by
  unfold convSame at h
  split at h
  · cases h
    rw [sv_rel hx]
    refine ⟨_, ?_, sv_mk _⟩
    simp [convert, run_underlying hd, run_underlying hs, enc_str]
  · cases h
theorem mm_sim {mx : Bool} {x y r : V} {u v : Value} (hx : VRel X φ w x u) (hy : VRel X φ w y v) (h : mm mx x y = some r) :
    ∃ z, (if mx then Builtin.max2 u v else Builtin.min2 u v).run P w = .ok z w ∧ VRel X φ w r z := by
  unfold mm at h
  split at h
  · cases h
    rw [sv_rel hx, sv_rel hy]
    refine ⟨_, ?_, sv_mk _⟩
    cases mx <;> simp [enc_int, Builtin.max2, Builtin.min2]
  · cases h
theorem lenM_sim (b : Base X φ σ a w) {T t' : TypeId} {ks : List SK} {x : V} {es : List (List S × List S)} {u : Value} (hT : (mapTys P T).isSome = true) (hx : VRel X φ w x u) (h : mapOf σ.objs ks x = some es) : (Builtin.len_ #[T] t' #[u]).run P w = .ok (.int .i64 es.length) w := by
  have hu : ∃ k e, P.underlying T = some (.map k e) := by
    unfold mapTys at hT
    split at hT
    · rename_i k e he; exact ⟨k, e, he⟩
    · cases hT
  obtain ⟨k, e, hu⟩ := hu
  rcases mapOf_sim b hx h with ⟨r0, rfl, ents, clock, g1, g2, g3, _⟩ | ⟨rfl, rfl⟩
  · have hl : ents.size = es.length := by
      have := congrArg List.length g2
      simpa using this
    simp [Builtin.len_, run_underlying hu, goInt, MapKept.run_getObj_map g1, hl]
  · simp [Builtin.len_, run_underlying hu, goInt]
theorem lenQ_sim (b : Base X φ σ a w) {k : SlK} {o : Opd} {r : V} {ts : Array TypeId} {t' : TypeId} {u : Value} (h2 : (match ts.toList, k with
    | [T], .str => isStr P T
    | [T], .sl _ => (sliceOf P T).isSome
    | [T], .arr n _ => (match arrayOf P T with | some (n', _) => n == n' | none => false)
    | [T], .mp _ => (mapTys P T).isSome
    | _, _ => false) = true) (hx : VRel X φ w (ev σ.env o) u) (h : quiet σ (.len k o) = some r) : ∃ n : Nat, (Builtin.len_ ts t' #[u]).run P w = .ok (.int .i64 n) w ∧ r = sv (.int .i64 (n : Nat)) := by
  obtain ⟨ts⟩ := ts
  cases k with
  | mp ks =>
    simp only [quiet] at h
    obtain ⟨es, h3, rfl⟩ := Option.map_eq_some_iff.1 h
    match ts, h2 with
    | [T], h2 => exact ⟨es.length, lenM_sim b h2 hx h3, rfl⟩
  | str =>
    simp only [quiet] at h
    obtain ⟨n, h3, rfl⟩ := Option.map_eq_some_iff.1 h
    match ts, h2 with
    | [T], h2 => exact ⟨n, lenV_sim (k := .str) hx h3 h2, rfl⟩
  | sl es =>
    simp only [quiet] at h
    obtain ⟨n, h3, rfl⟩ := Option.map_eq_some_iff.1 h
    match ts, h2 with
    | [T], h2 => exact ⟨n, lenV_sim (k := .sl es) hx h3 h2, rfl⟩
  | arr m es =>
    simp only [quiet] at h
    obtain ⟨n, h3, rfl⟩ := Option.map_eq_some_iff.1 h
    match ts, h2 with
    | [T], h2 =>
      have h3' : m = n := by simpa [lenV] using h3
      subst h3'
      have h2' : (match arrayOf P T with | some (n', _) => m == n' | none => false) = true := h2
      split at h2'
      · rename_i e he'
        have e1 := eq_of_beq h2'
        subst e1
        exact ⟨m, lenV_sim (k := .arr m es) hx h3 ⟨_, he'⟩, rfl⟩
      · cases h2'
theorem args1 {gs : Array Operand} {x : Opd} {ρ : Nat → Nat} (h : okXs ρ gs.toList [x] = true) : ∃ g, gs = #[g] ∧ okX ρ g x = true := by
  obtain ⟨gs⟩ := gs
  cases gs with
  | nil => simp [okXs] at h
  | cons g gs =>
    cases gs with
    | nil => exact ⟨g, rfl, by simpa [okXs] using h⟩
    | cons g' gs => simp [okXs] at h
theorem args2 {gs : Array Operand} {x y : Opd} {ρ : Nat → Nat} (h : okXs ρ gs.toList [x, y] = true) : ∃ g g', gs = #[g, g'] ∧ okX ρ g x = true ∧ okX ρ g' y = true := by
  obtain ⟨gs⟩ := gs
  cases gs with
  | nil => simp [okXs] at h
  | cons g gs =>
    cases gs with
    | nil => simp [okXs] at h
    | cons g' gs =>
      cases gs with
      | nil => exact ⟨g, g', rfl, by simpa [okXs] using h⟩
      | cons g'' gs => simp [okXs] at h
theorem bytesOf_map : ∀ {cs : List S} {s : List UInt8}, bytesOf cs = some s → ∃ ns : List Int, encs cs = ns.map (Value.int .u8) ∧ ∀ r : ByteArray, ns.foldl (fun r n => r.push (UInt8.ofNat n.toNat)) r = ⟨r.data ++ s.toArray⟩
  | [], s, h => by cases h; exact ⟨[], rfl, fun r => by simp⟩
  | x :: cs, s, h => by
    unfold bytesOf at h
    split at h
    · rename_i heq; cases heq
    · rename_i n r heq
      cases heq
      rw [Option.map_eq_some_iff] at h
      obtain ⟨s', h1, rfl⟩ := h
      obtain ⟨ns, h2, h3⟩ := bytesOf_map h1
      refine ⟨n :: ns, by simp [encs, enc] at h2 ⊢; exact h2, ?_⟩
      intro r
      rw [List.foldl_cons, h3]
      simp [ByteArray.push]
    · cases h
theorem ofBytes_sim (b : Base X φ σ a w) {S T e : TypeId} {m : Nat} {x : V} {u : Value} {ys : List DM.S} {s : List UInt8} (hs : P.underlying S = some (.slice e)) (he : P.underlying e = some (.int .u8)) (hd : P.underlying T = some .string)
    (hx : VRel X φ w x u) (h1 : elems σ.objs 1 x = some (m, ys)) (h2 : bytesOf ys = some s) : ∃ z, (convert S T u).run P w = .ok z w ∧ VRel X φ w (sv (.str s)) z := by
  obtain ⟨hl, hc⟩ := elems_sim b hx h1
  obtain ⟨ns, e1, e2⟩ := bytesOf_map h2
  rcases hc with ⟨p, c, rfl, hp, hr, _⟩ | ⟨p, c, rfl, rfl, hm⟩ | ⟨t, rfl, _, rfl, rfl⟩
  · have hld : (loadCells p m).run P w = .ok (ns.map (Value.int .u8)).toArray w := by
      have : m = (encs ys).length := by rw [encs_length]; omega
      rw [this, ← e1]
      obtain ⟨pb, po, ps⟩ := p
      simp only at hp hr
      subst hp
      exact run_loadCells_list (P := P) w ⟨pb, po, none⟩ (encs ys) (fun j v hj => by rw [Addr.add_mid]; exact hr j v hj)
    refine ⟨_, (run_convert_bytes_string w S T e _ _ _ hs he hd).trans (run_bytesToString w p m c ns hld), ?_⟩
    · rw [e2]
      have : (⟨ByteArray.empty.data ++ s.toArray⟩ : ByteArray) = ⟨s.toArray⟩ := by congr 1; exact Array.empty_append
      rw [this]
      exact sv_mk (.str s)
  · obtain rfl : m = 0 := by omega
    cases h2
    refine ⟨.string .empty, (run_convert_bytes_string w S T e _ _ _ hs he hd).trans ?_, sv_mk (.str [])⟩
    cases p with
    | none => rfl
    | some p =>
      have := run_bytesToString (P := P) w p 0 c [] (by simp [loadCells, loadCellsFrom])
      simpa using this
  · refine ⟨.string ⟨t.toArray⟩, by simp [convert, run_underlying hs, run_underlying hd], ?_⟩
    have : s = t := by
      have key : ∀ t : List UInt8, bytesOf (t.map fun b => .int .u8 b.toNat) = some t := by
        intro t
        induction t with
        | nil => rfl
        | cons c r ih => simp [bytesOf, ih]
      rw [key] at h2
      cases h2; rfl
    subst this
    exact sv_mk (.str s)
theorem quiet_sim (b : Base X φ σ a w) {g : Go.Oper} {m : Op} {r : V} (hok : okO P X.ρ g.op m = true) (h : quiet σ m = some r) :
    ∃ u, (execOp a.eval g).run P w = .ok (.value u) w ∧ VRel X φ w r u := by
  obtain ⟨gd, gop, gt, gp, ga, gg⟩ := g
  simp only at hok
  unfold okO at hok
  split at hok
  · -- move
    cases h
    exact ⟨_, rfl, okX_sim b hok⟩
  · cases h
    exact ⟨_, rfl, okX_sim b hok⟩
  · simp [quiet] at h
  · -- pick
    simp only [Bool.and_eq_true] at hok
    obtain ⟨⟨h1, h2⟩, h3⟩ := hok
    simp only [quiet] at h
    split at h
    · rename_i t heq
      cases h
      have := sv_rel (heq ▸ okX_sim b h1)
      refine ⟨_, by simp [execOp, this, enc, asBool]; rfl, ?_⟩
      cases t
      · exact okX_sim b h3
      · exact okX_sim b h2
    · cases h
  · simp [quiet] at h
  · simp [quiet] at h
  · -- build
    obtain ⟨u, h1, h2⟩ := build_sim b hok h
    exact ⟨u, run_v h1, h2⟩
  · simp [quiet] at h
  · simp [quiet] at h
  · -- load
    simp only [Bool.and_eq_true] at hok
    obtain ⟨⟨⟨h1, h2⟩, h3⟩, _⟩ := hok
    obtain ⟨u, g1, g2⟩ := load_sim b h3 h2 (okX_sim b h1) h
    exact ⟨u, run_v g1, g2⟩
  · simp [quiet] at h
  · -- nilCheck
    obtain ⟨rfl, h2⟩ := nilc_sim (okX_sim b hok) h
    refine ⟨_, ?_, okX_sim b hok⟩
    simp only [execOp]
    rcases h2 with ⟨p, hp⟩ | ⟨f, ps, qs, hp⟩ <;> rw [hp] <;> rfl
  · -- binOp
    simp only [Bool.and_eq_true] at hok
    obtain ⟨⟨h1, h2⟩, h3⟩ := hok
    have e := eq_of_beq h1
    subst e
    obtain ⟨u, g1, g2⟩ := bin_sim (P := P) (okX_sim b h2) (okX_sim b h3) h
    exact ⟨u, run_v g1, g2⟩
  · -- ==
    simp only [Bool.and_eq_true] at hok
    obtain ⟨⟨⟨⟨h1, h2⟩, h3⟩, h4⟩, h5⟩ := hok
    obtain ⟨u, g1, g2⟩ := eqa_sim (P := P) (neg := false) h3 h4 h5 (okX_sim b h1) (okX_sim b h2) h
    exact ⟨u, run_v g1, g2⟩
  · simp only [Bool.and_eq_true] at hok
    obtain ⟨⟨⟨⟨h1, h2⟩, h3⟩, h4⟩, h5⟩ := hok
    obtain ⟨u, g1, g2⟩ := eqa_sim (P := P) (neg := true) h3 h4 h5 (okX_sim b h1) (okX_sim b h2) h
    exact ⟨u, run_v g1, g2⟩
  · -- unOp
    simp only [Bool.and_eq_true] at hok
    obtain ⟨h1, h2⟩ := hok
    have e := eq_of_beq h1
    subst e
    obtain ⟨z, g1, g2⟩ := unop_sim (P := P) (okX_sim b h2) h
    exact ⟨z, run_v g1, g2⟩
  · -- a number's kind
    simp only [Bool.and_eq_true] at hok
    obtain ⟨⟨h1, h2⟩, h3⟩ := hok
    obtain ⟨z, g1, g2⟩ := convInt_sim (P := P) (okX_sim b h1) h (intOf_eq (eq_of_beq h2)) h3
    exact ⟨z, run_v g1, g2⟩
  · -- bytes to a string
    simp only [Bool.and_eq_true] at hok
    obtain ⟨⟨h1, h2⟩, h3⟩ := hok
    split at h3
    · rename_i e he
      simp only [Bool.and_eq_true] at h3
      simp only [quiet] at h
      rw [obs] at h
      obtain ⟨⟨m, ys⟩, h4, h⟩ := h
      rw [Option.map_eq_some_iff] at h
      obtain ⟨s, h5, rfl⟩ := h
      obtain ⟨z, g1, g2⟩ := ofBytes_sim (P := P) b (sliceOf_eq he) (intOf_eq (eq_of_beq h3.1)) (isStr_eq h2) (okX_sim b h1) h4 h5
      exact ⟨z, run_v g1, g2⟩
    · cases h3
  · -- a string as it is
    simp only [Bool.and_eq_true] at hok
    obtain ⟨⟨h1, h2⟩, h3⟩ := hok
    obtain ⟨z, g1, g2⟩ := convSame_sim (P := P) (okX_sim b h1) h (isStr_eq h2) (isStr_eq h3)
    exact ⟨z, run_v g1, g2⟩
  · -- a function's value
    simp only [Bool.and_eq_true] at hok
    obtain ⟨⟨h1, h2⟩, h3⟩ := hok
    have e := eq_of_beq h1
    subst e
    simp only [quiet] at h
    rw [obs] at h
    obtain ⟨p, h4, h⟩ := h
    rw [Option.map_eq_some_iff] at h
    obtain ⟨q, h5, rfl⟩ := h
    refine ⟨_, by simp [execOp, Instr.makeFunc]; rfl, _, _, ?_, asAs_sim h4 (okXs_sim b h2), asAs_sim h5 (okXs_sim b h3)⟩
    congr 1 <;> (apply Array.ext'; simp)
  · -- a part of a string
    simp only [Bool.and_eq_true] at hok
    obtain ⟨⟨⟨h1, h2⟩, h3⟩, h4⟩ := hok
    obtain ⟨u, g1, g2⟩ := slc_sim b (okX_sim b h1) (okXo_sim b h2) (okXo_sim b h3) h4 h
    exact ⟨u, run_v g1, g2⟩
  · -- a part of a slice
    simp only [Bool.and_eq_true] at hok
    obtain ⟨⟨⟨h1, h2⟩, h3⟩, h4⟩ := hok
    split at h4
    · rename_i e he
      obtain ⟨u, g1, g2⟩ := slc_sim (k := .sl _) b (okX_sim b h1) (okXo_sim b h2) (okXo_sim b h3) ⟨e, he, h4⟩ h
      exact ⟨u, run_v g1, g2⟩
    · cases h4
  · -- a field
    simp only [Bool.and_eq_true] at hok
    obtain ⟨h1, h2⟩ := hok
    split at h2
    · rename_i fd hf
      simp only [Bool.and_eq_true] at h2
      obtain ⟨⟨⟨h3, h4⟩, h5⟩, h6⟩ := h2
      have e := eq_of_beq h3
      simp only [quiet] at h
      split at h
      · rename_i cs heq
        have hv := av_rel (heq ▸ okX_sim b h1)
        obtain ⟨fs, hu, hf'⟩ := fieldOf_eq hf
        obtain ⟨z, g1, g2⟩ := agg_part (X := X) (φ := φ) h5 h4 (by simpa using h6) h w
        refine ⟨z, run_v ?_, g2⟩
        simp [Instr.field, run_underlying hu, hf', hv, asAgg, e, g1]
      · cases h
    · cases h2
  · -- a field's place
    simp only [Bool.and_eq_true] at hok
    obtain ⟨h1, h2⟩ := hok
    split at h2
    · rename_i fd hf
      simp only [Bool.and_eq_true] at h2
      obtain ⟨h3, h4⟩ := h2
      split at h4
      · rename_i n hn
        obtain ⟨p, g1, g2⟩ := fadr_sim (okX_sim b h1) h
        refine ⟨_, run_v ?_, g2⟩
        rw [g1]
        exact fieldAddr_run hf (eq_of_beq h3) hn (by simpa using h4) w
      · cases h4
    · cases h2
  · -- an element's place
    simp only [Bool.and_eq_true] at hok
    obtain ⟨⟨h1, h2⟩, h3⟩ := hok
    split at h3
    · rename_i e he
      obtain ⟨z, g1, g2⟩ := idxs_sim b.toks he h3 (okX_sim b h1) (okX_sim b h2) h
      exact ⟨z, run_v g1, g2⟩
    · cases h3
  · -- an array's element's place
    simp only [Bool.and_eq_true] at hok
    obtain ⟨⟨h1, h2⟩, h3⟩ := hok
    split at h3
    · rename_i n e he
      simp only [Bool.and_eq_true] at h3
      have e' := eq_of_beq h3.1
      subst e'
      obtain ⟨z, g1, g2⟩ := idxa_sim he h3.2 (okX_sim b h1) (okX_sim b h2) h
      exact ⟨z, run_v g1, g2⟩
    · cases h3
  · -- a string's byte
    simp only [Bool.and_eq_true] at hok
    obtain ⟨⟨h1, h2⟩, h3⟩ := hok
    simp only [quiet] at h
    split at h
    · rename_i s k i heq1 heq2
      have e1 := sv_rel (heq1 ▸ okX_sim b h1)
      have e2 := sv_rel (heq2 ▸ okX_sim b h2)
      split at h
      · rename_i h0
        rw [Option.map_eq_some_iff] at h
        obtain ⟨c, hc, rfl⟩ := h
        refine ⟨_, run_v ?_, sv_mk _⟩
        have : (⟨s.toArray⟩ : ByteArray)[i.toNat]? = some c := by
          rw [← hc]
          simp only [getElem?_def, ByteArray.size, List.size_toArray]
          rfl
        simp [Instr.index, e1, e2, enc, asIntOf, run_underlying (isStr_eq h3), h0, this]
      · cases h
    · cases h
  · -- an array's element
    simp only [Bool.and_eq_true] at hok
    obtain ⟨⟨h1, h2⟩, h3⟩ := hok
    split at h3
    · rename_i n e he
      simp only [Bool.and_eq_true] at h3
      obtain ⟨⟨⟨h3, h4⟩, h5⟩, h6⟩ := h3
      have e' := eq_of_beq h3
      subst e'
      simp only [quiet] at h
      split at h
      · rename_i cs k i heq1 heq2
        have e1 := av_rel (heq1 ▸ okX_sim b h1)
        have e2 := sv_rel (heq2 ▸ okX_sim b h2)
        split at h
        · rename_i hc
          obtain ⟨z, g1, g2⟩ := agg_part (X := X) (φ := φ) h5 h4 (by simpa using h6) h w
          refine ⟨z, run_v ?_, g2⟩
          simp [Instr.index, e1, e2, enc, asIntOf, run_underlying (arrayOf_eq he), hc, run_sizeOf' h4 w, g1]
        · cases h
      · cases h
    · cases h3
  · -- a part of a tuple
    simp only [Bool.and_eq_true] at hok
    obtain ⟨h1, h2⟩ := hok
    have e := eq_of_beq h2
    subst e
    simp only [quiet] at h
    split at h
    · rename_i xs heq
      obtain ⟨vs, g1, g2⟩ : VRel X φ w (.tup xs) _ := heq ▸ okX_sim b h1
      rw [Option.map_eq_some_iff] at h
      obtain ⟨x, hx, rfl⟩ := h
      obtain ⟨v, g3, g4⟩ := g2.get hx
      refine ⟨v, run_v ?_, g4⟩
      simp [Instr.extract, g1, g3]
    · cases h
  · simp [quiet] at h
  · simp [quiet] at h
  · simp [quiet] at h
  · -- len
    simp only [Bool.and_eq_true] at hok
    obtain ⟨h1, h2⟩ := hok
    obtain ⟨x, rfl, h4⟩ := args1 h1
    obtain ⟨n, this, rfl⟩ := lenQ_sim (t' := gt) b h2 (okX_sim b h4) h
    refine ⟨_, ?_, sv_mk _⟩
    simp [execOp, resolve, invoke, builtin, this, enc_int]
  · -- max
    obtain ⟨x, y, rfl, h1, h2⟩ := args2 hok
    obtain ⟨z, g1, g2⟩ := mm_sim (P := P) (okX_sim b h1) (okX_sim b h2) h
    exact ⟨z, by simpa [execOp, resolve, invoke, builtin, Builtin.max_] using run_v g1, g2⟩
  · obtain ⟨x, y, rfl, h1, h2⟩ := args2 hok
    obtain ⟨z, g1, g2⟩ := mm_sim (P := P) (okX_sim b h1) (okX_sim b h2) h
    exact ⟨z, by simpa [execOp, resolve, invoke, builtin, Builtin.min_] using run_v g1, g2⟩
  · simp [quiet] at h
  · simp [quiet] at h
  · simp [quiet] at h
  · simp [quiet] at h
  · simp [quiet] at h
  · -- a map's value
    simp only [Bool.and_eq_true] at hok
    obtain ⟨⟨⟨⟨h1, h2⟩, h3⟩, h4⟩, h5⟩ := hok
    have e := eq_of_beq h3
    subst e
    obtain ⟨z, g1, g2⟩ := lookup_sim (P := P) b h4 h5 (okX_sim b h1) (okX_sim b h2) h
    exact ⟨z, run_v g1, g2⟩
  · simp [quiet] at h
  · simp [quiet] at h
  · simp [quiet] at h
  · simp [quiet] at h
  · cases hok
end
end Go.DM
