/- Maps whose keys are rows of plain cells: looking a key up, writing one. -/
import Derived.Test.YtaocbbdkiemhaaaK139SimB
import Derived.WideKeyRuns
set_option linter.unusedSimpArgs false
set_option linter.unusedVariables false
namespace Go.DM
set_option linter.unusedSectionVars false
variable [Tok]
section
variable {P : Program} {X : Cx} {φ : Nat → Option Loc} {w : World} {σ : St} {a : Act}

theorem checkF {g : TypeId → Option (List SK)} {em : Bool} {n : Nat}
    (hg : ∀ t ks, g t = some ks → ∃ agg, rowIs P t agg = true ∧ sizeIs P t ks.length = true ∧ (agg = true ∨ ks.length = 1) ∧ ∀ xs w, hasKs ks xs = true → (Instr.checkKey em n t (rep agg xs)).run P w = .ok () w) :
    ∀ (fs : List Field) (acc ks : List SK), kindsF g fs acc = some ks → ∃ ls, ks = acc ++ ls ∧
      ∀ (cx : List S) (w : World), cx.length = ks.length → hasKs ls (cx.drop acc.length) = true → ∀ (f0 : Field → PUnit → Sem (ForInStep PUnit)),
        (∀ f, f.name ≠ "_" → ∀ v w, (part f.type (encs cx).toArray f.offset).run P w = .ok v w → (Instr.checkKey em n f.type v).run P w = .ok () w → (f0 f ⟨⟩).run P w = .ok (.yield ⟨⟩) w) →
        (forIn fs PUnit.unit f0).run P w = .ok ⟨⟩ w
  | [], acc, ks, h => by
    cases h
    exact ⟨[], by simp, fun cx w _ _ f0 _ => by simp⟩
  | f :: fs, acc, ks, h => by
    simp only [kindsF] at h
    split at h
    · cases h
    · rename_i hn
      rw [Option.bind_eq_some_iff] at h
      obtain ⟨k1, h1, h2⟩ := h
      obtain ⟨ls, h3, h4⟩ := checkF hg fs (acc ++ k1) ks h2
      obtain ⟨agg, g1, g2, g3, g4⟩ := hg _ _ h1
      have hname : f.name ≠ "_" := fun e => hn (.inl e)
      have hoff : f.offset = acc.length := by
        by_cases e : f.offset = acc.length
        · exact e
        · exact (hn (.inr e)).elim
      refine ⟨k1 ++ ls, by rw [h3, List.append_assoc], fun cx w hx kx f0 hf0 => ?_⟩
      have hlen : acc.length + k1.length ≤ ks.length := by rw [h3]; simp
      obtain ⟨kx1, kx2⟩ := hasKs_append kx
      have e1 : (cx.drop acc.length).drop k1.length = cx.drop (acc ++ k1).length := by rw [List.drop_drop, List.length_append]
      have := hf0 f hname _ w (by rw [hoff]; exact run_part (cs := cx) (off := acc.length) g1 g2 g3 (by omega) w) (g4 _ w kx1)
      simp only [List.forIn_cons, Sem.run_bind, this, Result.andThen_ok]
      exact h4 cx w hx (e1 ▸ kx2) f0 hf0

theorem rowIs_eq {t : TypeId} {a b : Bool} (h : rowIs P t a = true) (g : rowIs P t b = true) : a = b := by
  unfold rowIs at h g
  split at h
  · rename_i hu
    rw [hu] at g
    rw [← eq_of_beq h, ← eq_of_beq g]
  · cases h

theorem checkKinds (em : Bool) : ∀ (d n : Nat), d ≤ n → ∀ t ks, kindsOf P d t = some ks → ∃ agg, rowIs P t agg = true ∧ sizeIs P t ks.length = true ∧ (agg = true ∨ ks.length = 1) ∧
    ∀ xs w, hasKs ks xs = true → (Instr.checkKey em n t (rep agg xs)).run P w = .ok () w
  | 0, _, _, t, ks, h => by simp [kindsOf] at h
  | d + 1, 0, hn, _, _, _ => by omega
  | d + 1, n + 1, hn, t, ks, h => by
    unfold kindsOf at h
    split at h
    · rename_i hu
      split at h
      · rename_i hs
        cases h
        refine ⟨false, by simp [rowIs, hu], hs, .inr rfl, fun xs w hx => ?_⟩
        obtain ⟨x, rfl, h1⟩ := hasKs_one hx
        cases x <;> simp [hasK] at h1
        simp [rep, enc, Instr.checkKey, run_underlying hu]
      · cases h
    · rename_i k hu
      split at h
      · rename_i hs
        cases h
        refine ⟨false, by simp [rowIs, hu], hs, .inr rfl, fun xs w hx => ?_⟩
        obtain ⟨x, rfl, h1⟩ := hasKs_one hx
        cases x <;> simp [hasK] at h1
        simp [rep, enc, Instr.checkKey, run_underlying hu]
      · cases h
    · rename_i hu
      split at h
      · rename_i hs
        cases h
        refine ⟨false, by simp [rowIs, hu], hs, .inr rfl, fun xs w hx => ?_⟩
        obtain ⟨x, rfl, h1⟩ := hasKs_one hx
        cases x <;> simp [hasK] at h1
        simp [rep, enc, Instr.checkKey, run_underlying hu]
      · cases h
    · rename_i fs hu
      split at h
      · cases h
      · rw [Option.bind_eq_some_iff] at h
        obtain ⟨ks', h1, h2⟩ := h
        split at h2
        · rename_i hs
          cases h2
          obtain ⟨ls, h3, h4⟩ := checkF (P := P) (em := em) (n := n) (fun t ks h => checkKinds em d n (by omega) t ks h) fs.toList [] ks h1
          simp only [List.nil_append] at h3
          subst h3
          refine ⟨true, by simp [rowIs, hu], hs, .inl rfl, fun xs w hx => ?_⟩
          simp only [rep, if_true]
          unfold Instr.checkKey
          simp only [Sem.run_bind, run_underlying hu, Result.andThen_ok]
          rw [← Array.forIn_toList]
          have := h4 xs w (hasKs_length hx) hx
          refine (congrArg (fun r => Result.andThen r _) (this _ fun f hf v w' hv hc => ?_)).trans ?_
          · simp [hf, hv, hc]
          · simp
        · cases h2
    · cases h

theorem rep_rep1 {agg : Bool} {ks : List SK} {xs : List S} (hk : hasKs ks xs = true) (ha : agg = (ks.length != 1)) : rep agg xs = rep1 xs := by
  have hl := hasKs_length hk
  subst ha
  by_cases h : ks.length = 1
  · rw [h] at hl
    match xs, hl with
    | [x], _ => simp [rep, rep1, h]
  · simp only [rep, rep1, show (ks.length != 1) = true by simpa using h, if_true]
    split
    · rename_i x
      simp at hl
      exact (h hl.symm).elim
    · rfl

/-- A key is looked for. -/
theorem findAsking_sim {t : TypeId} {ks : List SK} {key : List S} (heq : ∀ xs ys w, hasKs ks xs = true → hasKs ks ys = true → (Op.equal t (rep1 xs) (rep1 ys)).run P w = .ok (eqSs xs ys) w) (hk : hasKs ks key = true) :
    ∀ (ents : List MapEntry) (es : List (List S × List S)) (i : Nat), ents.map (fun e => (e.key, e.val)) = es.map (fun p => (rep1 p.1, rep1 p.2)) → (∀ p ∈ es, hasKs ks p.1 = true) →
      ∃ r, (Instr.findAsking t (rep1 key) ents i).run P w = .ok r w ∧ ((mfind key es = none ∧ r = none ∧ ∀ v, mset key v es = es ++ [(key, v)]) ∨
        ∃ j k' u, r = some (i + j, rep1 u) ∧ mfind key es = some u ∧ es[j]? = some (k', u) ∧ eqSs key k' = true ∧ ∀ v, mset key v es = es.set j (key, v))
  | [], [], i, _, _ => ⟨none, by simp [Instr.findAsking], .inl ⟨rfl, rfl, fun v => rfl⟩⟩
  | [], _ :: _, _, h, _ => by simp at h
  | _ :: _, [], _, h, _ => by simp at h
  | e :: ents, (k', u) :: es, i, h, hks => by
    simp only [List.map_cons, List.cons.injEq, Prod.mk.injEq] at h
    obtain ⟨⟨h1, h2⟩, h3⟩ := h
    have hq := heq key k' w hk (hks _ (List.mem_cons_self ..))
    rw [← h1] at hq
    cases hb : eqSs key k' with
    | true =>
      rw [hb] at hq
      refine ⟨some (i, rep1 u), by simp [Instr.findAsking, hq, h2], .inr ⟨0, k', u, rfl, by simp [mfind, hb], rfl, hb, fun v => by simp [mset, hb]⟩⟩
    | false =>
      rw [hb] at hq
      obtain ⟨r, g1, g2⟩ := findAsking_sim heq hk ents es (i + 1) h3 (fun p hp => hks p (List.mem_cons_of_mem _ hp))
      refine ⟨r, by simp [Instr.findAsking, hq, g1], ?_⟩
      rcases g2 with ⟨e1, e2, e3⟩ | ⟨j, k2, u2, e1, e2, e3, e4, e5⟩
      · exact .inl ⟨by simp [mfind, hb, e1], e2, fun v => by simp [mset, hb, e3]⟩
      · exact .inr ⟨j + 1, k2, u2, by rw [e1]; congr 2; omega, by simp [mfind, hb, e2], by simpa using e3, e4, fun v => by simp [mset, hb, e5]⟩

theorem bytes_beq (a : ByteArray) : (a == a) = true := by
  cases a with
  | mk d => exact (beq_self_eq_true d : (d == d) = true)
theorem sameBits_S : ∀ {k : SK} {x y : S} (n : Nat), hasK k x = true → hasK k y = true → eqS x y = true → Instr.sameBits (n + 1) (enc x) (enc y) = true ∧ enc x = enc y
  | k, x, y, n, hx, hy, h => by
    cases k <;> cases x <;> simp [hasK] at hx <;> cases y <;> simp [hasK] at hy <;> simp [eqS] at h <;> subst_vars <;> simp [enc, Instr.sameBits] <;> exact bytes_beq _
theorem sameBits_Ss : ∀ {ks : List SK} {xs ys : List S} (n : Nat), hasKs ks xs = true → hasKs ks ys = true → eqSs xs ys = true → encs xs = encs ys ∧ ((encs xs).zip (encs ys)).all (fun p => Instr.sameBits (n + 1) p.1 p.2) = true
  | [], [], [], n, _, _, _ => ⟨rfl, rfl⟩
  | k :: ks, x :: xs, y :: ys, n, hx, hy, h => by
    simp only [hasKs, eqSs, Bool.and_eq_true] at hx hy h
    obtain ⟨h1, h2⟩ := sameBits_S n hx.1 hy.1 h.1
    obtain ⟨h3, h4⟩ := sameBits_Ss n hx.2 hy.2 h.2
    simp only [encs] at h3 h4
    refine ⟨by simp [encs, h2, h3], ?_⟩
    simp only [encs, List.map_cons, List.zip_cons_cons, List.all_cons, h1, h4, Bool.and_self]
  | [], _ :: _, _, _, h, _, _ => by simp [hasKs] at h
  | [], [], _ :: _, _, _, h, _ => by simp [hasKs] at h
  | _ :: _, [], _, _, h, _, _ => by simp [hasKs] at h
  | _ :: _, _ :: _, [], _, _, h, _ => by simp [hasKs] at h
theorem sameBits_rep {ks : List SK} {xs ys : List S} (n : Nat) (hx : hasKs ks xs = true) (hy : hasKs ks ys = true) (h : eqSs xs ys = true) (hl : ks.length ≠ 1) : Instr.sameBits (n + 2) (rep1 ys) (rep1 xs) = true := by
  obtain ⟨h1, h2⟩ := sameBits_Ss n hx hy h
  have e1 : rep1 xs = .agg (encs xs).toArray := by
    have := hasKs_length hx
    unfold rep1
    split
    · simp at this; exact (hl this.symm).elim
    · rfl
  have e2 : rep1 ys = .agg (encs ys).toArray := by
    have := hasKs_length hy
    unfold rep1
    split
    · simp at this; exact (hl this.symm).elim
    · rfl
  rw [e1, e2]
  rw [h1] at h2
  simp only [Instr.sameBits, h1, beq_self_eq_true, Bool.true_and]
  exact h2

theorem okMap_spec {T : TypeId} {ks : List SK} {vn : Nat} (h : okMap P T ks vn = true) : ∃ k e, P.underlying T = some (.map k e) ∧ kindsOf P 20 k = some ks ∧ (∃ fs, P.underlying k = some (.struct fs)) ∧ ks.length ≠ 1 ∧ rowIs P e (vn != 1) = true := by
  unfold okMap mapTys at h
  split at h
  · rename_i k e hm
    split at hm
    · rename_i k' e' hu
      cases hm
      simp only [Bool.and_eq_true] at h
      obtain ⟨⟨⟨h1, h2⟩, h3⟩, h4⟩ := h
      refine ⟨k, e, hu, ?_, ?_, by simpa using h3, h4⟩
      · cases hko : kindsOf P 20 k with
        | none => rw [hko] at h1; simp [eqKs] at h1
        | some ks' => rw [hko] at h1; rw [eqKs_eq h1]
      · split at h2
        · exact ⟨_, by assumption⟩
        · cases h2
    · cases hm
  · cases h

theorem map_equal {k : TypeId} {ks : List SK} (hk : kindsOf P 20 k = some ks) (hs : ∃ fs, P.underlying k = some (.struct fs)) (hl : ks.length ≠ 1) :
    (∀ xs ys w, hasKs ks xs = true → hasKs ks ys = true → (Op.equal k (rep1 xs) (rep1 ys)).run P w = .ok (eqSs xs ys) w) ∧ (∀ em xs w, hasKs ks xs = true → (Instr.checkKey em 10000 k (rep1 xs)).run P w = .ok () w) := by
  obtain ⟨fs, hs⟩ := hs
  obtain ⟨agg, g1, g2, g3, g4⟩ := kindsOf_sim (P := P) 20 10000 (by omega) k _ hk
  have ea : agg = true := rowIs_eq g1 (by simp [rowIs, hs])
  have eb : agg = (ks.length != 1) := by rw [ea]; simpa using hl
  refine ⟨fun xs ys w hx hy => ?_, fun em xs w hx => ?_⟩
  · have := g4 xs ys w hx hy
    rw [rep_rep1 hx eb, rep_rep1 hy eb] at this
    exact this
  · obtain ⟨agg', f1, f2, f3, f4⟩ := checkKinds (P := P) em 20 10000 (by omega) k _ hk
    have ec : agg' = (ks.length != 1) := by rw [rowIs_eq f1 g1]; exact eb
    have := f4 xs w hx
    rwa [rep_rep1 hx ec] at this

theorem cellsA_rep1 {ks : List SK} {x : V} {cs : List S} {v : Value} (h : VRel X φ w x v) (hc : cellsA (ks.length != 1) x = some cs) (hk : hasKs ks cs = true) : v = rep1 cs := by
  rw [cellsA_rel h hc, rep_rep1 hk rfl]
theorem cellsA_rep1' {n : Nat} {x : V} {cs : List S} {v : Value} (h : VRel X φ w x v) (hc : cellsA (n != 1) x = some cs) (hl : cs.length = n) : v = rep1 cs := by
  have e := cellsA_rel h hc
  rw [e]
  by_cases h1 : n = 1
  · subst h1
    match cs, hl with
    | [x], _ => simp [rep, rep1]
  · simp only [rep, rep1, show (n != 1) = true by simpa using h1, if_true]
    split
    · simp at hl; exact (h1 hl.symm).elim
    · rfl

theorem ofCells_rep1 {n : Nat} {cs : List S} {r : V} (h : ofCells (n != 1) cs = some r) (hl : n = 1 ∨ cs.length ≠ 1) : VRel X φ w r (rep1 cs) := by
  unfold ofCells at h
  by_cases h1 : n = 1
  · subst h1
    simp at h
    split at h
    · cases h; exact sv_mk _
    · cases h
  · simp only [show (n != 1) = true by simpa using h1, if_true] at h
    cases h
    have : rep1 cs = .agg (encs cs).toArray := by
      unfold rep1
      split
      · rcases hl with h | h
        · exact (h1 h).elim
        · exact (h rfl).elim
      · rfl
    rw [this]
    exact av_mk cs

theorem zeroEq_run {t : TypeId} {zs : List S} (h : zeroEq P t zs = true) (w : World) : (zeroValue t).run P w = .ok (rep1 zs) w := by
  unfold zeroEq at h
  split at h
  · rename_i i hi
    split at h
    · rename_i c hz
      simp only [Bool.and_eq_true] at h
      have e := eqCs_eq h.2
      have : rep1 zs = .agg c := by
        unfold rep1
        split
        · simp at h
        · rw [← e]
      simp [zeroValue, typeInfo, hi, hz, this]
    · rename_i v hna hz
      split at h
      · rename_i x
        have e := eqC_eq h
        simp [zeroValue, typeInfo, hi, hz, rep1, e]
      · cases h
    · cases h
  · cases h

theorem mapOf_sim (b : Base X φ σ a w) {ks : List SK} {x : V} {u : Value} {es : List (List S × List S)} (hx : VRel X φ w x u) (h : mapOf σ.objs ks x = some es) :
    (∃ r, u = .map (some r) ∧ mapAt w r ks es) ∨ (u = .map none ∧ es = []) := by
  unfold mapOf at h
  split at h
  · rename_i o
    split at h
    · rename_i ks' es' hob
      split at h
      · rename_i hk
        subst hk
        cases h
        obtain ⟨l, g1, g2⟩ := hx
        obtain ⟨l', g1', g3⟩ := b.objs _ _ hob
        rw [g1] at g1'; cases g1'
        exact .inl ⟨l.1, g2, g3⟩
      · cases h
    · cases h
  · rename_i ks' es'
    split at h
    · rename_i hk
      subst hk
      cases h
      have hx : DRel _ _ _ _ _ := hx
      cases hx with
      | map _ _ r hI hr => exact .inl ⟨r, rfl, hr⟩
    · cases h
  · cases h
    exact .inr ⟨sv_rel hx, rfl⟩
  · cases h

theorem lookup_sim (b : Base X φ σ a w) {T : TypeId} {ks : List SK} {vn : Nat} {zv : List S} {ok : Bool} {x k r : V} {u v : Value} (hT : okMap P T ks vn = true) (hz : (match mapTys P T with | some (_, e) => zeroEq P e zv | none => false) = true)
    (hx : VRel X φ w x u) (hk : VRel X φ w k v)
    (h : ((mapOf σ.objs ks x).bind fun es => (cellsA (ks.length != 1) k).bind fun key =>
      if hasKs ks key && ((mfind key es).getD zv).length == vn then (match ofCells (vn != 1) ((mfind key es).getD zv) with
        | some (.a x) => some (if ok then V.tup [x, .d (.s (.bool (mfind key es).isSome))] else .a x)
        | _ => none) else none) = some r) :
    ∃ z, (Instr.lookup T u v ok).run P w = .ok z w ∧ VRel X φ w r z := by
  rw [Option.bind_eq_some_iff] at h
  obtain ⟨es, h1, h⟩ := h
  rw [Option.bind_eq_some_iff] at h
  obtain ⟨key, h2, h⟩ := h
  split at h
  · rename_i hc
    rw [Bool.and_eq_true] at hc
    obtain ⟨hc1, hc2⟩ := hc
    have hc2 := eq_of_beq hc2
    obtain ⟨kt, et, hu, hko, hst, hl, hre⟩ := okMap_spec hT
    obtain ⟨meq, mck⟩ := map_equal hko hst hl
    have ev' := cellsA_rep1 hk h2 hc1
    subst ev'
    have hz' : zeroEq P et zv = true := by simpa [mapTys, hu] using hz
    have z1 := zeroEq_run hz'
    -- the entries
    obtain ⟨ents, hget, hents, hkeys⟩ : ∃ ents : Array MapEntry, ((u = .map none ∧ ents = #[]) ∨ ∃ r clock, u = .map (some r) ∧ w.heap[r]? = some (.map ents clock)) ∧ ents.toList.map (fun e => (e.key, e.val)) = es.map (fun p => (rep1 p.1, rep1 p.2)) ∧ ∀ p ∈ es, hasKs ks p.1 = true := by
      rcases mapOf_sim b hx h1 with ⟨r0, rfl, ents, clock, g1, g2, g3, _⟩ | ⟨rfl, rfl⟩
      · exact ⟨ents, .inr ⟨r0, clock, rfl, g1⟩, g2, g3⟩
      · exact ⟨#[], .inl ⟨rfl, rfl⟩, rfl, fun p hp => by cases hp⟩
    obtain ⟨fr, hfr, hcase⟩ := findAsking_sim (P := P) (w := w) (t := kt) meq hc1 ents.toList es 0 hents hkeys
    have hfk : (Instr.findKey kt (rep1 key) ents.toList).run P w = .ok fr w := by
      rw [run_findKey_eq w (by obtain ⟨fs, hs⟩ := hst; simp [hs])]; exact hfr
    have hlk : (Instr.lookup T u (rep1 key) ok).run P w = (match fr with | some (_, v) => Result.ok (if ok then .tuple #[v, .bool true] else v) w | none => Result.ok (if ok then .tuple #[rep1 zv, .bool false] else rep1 zv) w) := by
      unfold Instr.lookup
      rcases hget with ⟨rfl, rfl⟩ | ⟨r, clock, rfl, g1⟩
      · simp only [Array.toList_empty] at hfk
        cases fr with
        | none => simp [run_underlying hu, mck, hc1, hfk, z1]
        | some p => simp [run_underlying hu, mck, hc1, hfk]
      · cases fr with
        | none => simp [run_underlying hu, mck, hc1, hfk, z1, MapKept.run_getObj_map g1]
        | some p => simp [run_underlying hu, mck, hc1, hfk, MapKept.run_getObj_map g1]
    split at h
    · rename_i y hy
      cases h
      rcases hcase with ⟨e1, rfl, _⟩ | ⟨j, k', uv, rfl, e2, _⟩
      · rw [e1] at hy ⊢
        simp only [Option.getD_none] at hy
        rw [e1, Option.getD_none] at hc2
        have hv0 : VRel X φ w (.a y) (rep1 zv) := ofCells_rep1 (n := vn) hy (by omega)
        refine ⟨_, hlk, ?_⟩
        cases ok with
        | true => exact ⟨[rep1 zv, .bool false], rfl, .cons hv0 (.cons (DRel.s (.bool false)) .nil)⟩
        | false => exact hv0
      · rw [e2] at hy ⊢
        simp only [Option.getD_some] at hy
        have hv0 : VRel X φ w (.a y) (rep1 uv) := ofCells_rep1 (n := vn) hy (by rw [e2, Option.getD_some] at hc2; omega)
        refine ⟨_, hlk, ?_⟩
        cases ok with
        | true => exact ⟨[rep1 uv, .bool true], rfl, .cons hv0 (.cons (DRel.s (.bool true)) .nil)⟩
        | false => exact hv0
    · cases h
  · cases h
end
end Go.DM
