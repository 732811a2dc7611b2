/- The rest of the operations that only compute or read. -/
import Derived.Test.YtgbifpijjfolbaaGreatK441SimA
set_option linter.all false
namespace Go.DM
variable [Tok]
section
variable {P : Program} {X : Cx} {φ : Nat → Option Loc} {w : World} {σ : St} {a : Act}
theorem run_v {s : Sem Value} {u : Value} {w' : World} (hs : s.run P w = .ok u w') : ((do pure (Next.value (← s))) : Sem Next).run P w = .ok (.value u) w' := by
  simp [hs]
theorem foldl_set (l : List Value) : ∀ (k off : Nat) (cells : Array Value), off + k + l.length ≤ cells.size →
    ((l.zipIdx k).foldl (fun (cs : Array Value) (p : Value × Nat) => cs.setIfInBounds (off + p.2) p.1) cells).toList = cells.toList.take (off + k) ++ l ++ cells.toList.drop (off + k + l.length) := by
  induction l with
  | nil => intro k off cells h; simp
  | cons v l ih =>
    intro k off cells h
    simp only [List.length_cons] at h
    simp only [List.zipIdx_cons, List.foldl_cons]
    rw [ih (k + 1) off _ (by simp; omega)]
    have hlt : off + k < cells.toList.length := by simp; omega
    simp only [Array.toList_setIfInBounds, List.length_cons]
    rw [show off + (k + 1) = off + k + 1 by omega, show off + k + 1 + l.length = off + k + (l.length + 1) by omega]
    rw [List.take_succ_eq_append_getElem (by simpa using hlt)]
    simp only [List.getElem_set_self, List.append_assoc, List.singleton_append]
    rw [List.take_set_of_le (by omega), List.drop_set_of_lt (by omega)]
theorem fill_one (off : Nat) (v : Value) (cs : List Value) (zs : List Value) (hv : v.cells.toList = cs) (h : off + cs.length ≤ zs.length) :
    (v.cells.zipIdx.foldl (fun (cs : Array Value) (p : Value × Nat) => cs.setIfInBounds (off + p.2) p.1) zs.toArray) = (zs.take off ++ cs ++ zs.drop (off + cs.length)).toArray := by
  apply Array.ext'
  rw [← Array.foldl_toList, Array.toList_zipIdx, foldl_set _ 0 off _ (by rw [hv]; simpa using h), hv]
  simp
theorem fill_sim (b : Base X φ σ a w) {place : Nat → Option (Nat × Nat)} : ∀ {gs : List (Nat × Operand)} {ms : List (Nat × Nat × Opd)} {zs : List S} {ps : List (Nat × List S)} {cs : List S},
    okParts X.ρ place gs ms = true →
    all? (fun p : Nat × Nat × Opd => (cellsOf (ev σ.env p.2.2)).bind fun cs => if cs.length = p.2.1 then some (p.1, cs) else none) ms = some ps → fill zs ps = some cs →
    Instr.fill place (encs zs).toArray (gs.map fun p => (p.1, a.eval p.2)) = some (encs cs).toArray
  | [], [], zs, ps, cs, _, h, hf => by
    cases h
    cases hf
    rfl
  | (i, x) :: gs, (off, n, y) :: ms, zs, ps, cs, hok, h, hf => by
    simp only [okParts, Bool.and_eq_true] at hok
    obtain ⟨⟨h1, h2⟩, h3⟩ := hok
    have hp : place i = some (off, n) := by simpa using h2
    simp only [all?] at h
    rw [obs] at h
    obtain ⟨q, hq, hr⟩ := h
    rw [obs] at hq
    obtain ⟨c1, hc, hq⟩ := hq
    split at hq
    · rename_i hn
      cases hq
      rw [Option.map_eq_some_iff] at hr
      obtain ⟨ps', hps, rfl⟩ := hr
      simp only [fill] at hf
      split at hf
      · rename_i hle
        have hv := cellsOf_rel (okX_sim b h1) hc
        have hvs : (a.eval x).cells.size = c1.length := by rw [hv]; simp [encs]
        simp only [List.map_cons, Instr.fill, hp]
        rw [if_neg (by
          simp only [hvs, hn, encs, List.size_toArray, List.length_map, Bool.or_eq_true, bne_iff_ne, ne_eq, decide_eq_true_eq, not_or, Bool.not_eq_true]
          simp
          omega)]
        have e : (a.eval x).cells.zipIdx.foldl (fun cs (x : Value × Nat) => match x with | (c, j) => cs.setIfInBounds (off + j) c) (encs zs).toArray = (encs (zs.take off ++ c1 ++ zs.drop (off + c1.length))).toArray := by
          have := fill_one off (a.eval x) (encs c1) (encs zs) (by rw [hv]) (by simpa [encs] using hle)
          rw [encs_length] at this
          refine Eq.trans ?_ (this.trans ?_)
          · rfl
          · simp [encs, List.map_take, List.map_drop]
        rw [e]
        exact fill_sim b h3 hps hf
      · cases hf
    · cases hq
  | [], _ :: _, _, _, _, hok, _, _ => by simp [okParts] at hok
  | _ :: _, [], _, _, _, hok, _, _ => by simp [okParts] at hok
theorem zeroIs_run {t : TypeId} {zs : List S} (h : zeroIs P t zs = true) : ∃ z, (∀ w, (zeroValue t).run P w = .ok z w) ∧ z.cells = (encs zs).toArray ∧ sizeIs P t zs.length = true := by
  unfold zeroIs at h
  split at h
  · rename_i i hi
    simp only [Bool.and_eq_true, decide_eq_true_eq] at h
    obtain ⟨h1, h2⟩ := h
    split at h2
    · rename_i z hz
      refine ⟨z, fun w => by simp [zeroValue, typeInfo, hi, hz], ?_, by simp [sizeIs, hi, h1]⟩
      apply Array.ext'
      exact eqCs_eq h2
    · cases h2
  · cases h
theorem run_mapM_list {α β : Type} (f : α → Sem β) (g : α → β) : ∀ (l : List α) (_ : ∀ x, x ∈ l → ∀ w, (f x).run P w = .ok (g x) w) (w : World), (l.mapM f).run P w = .ok (l.map g) w
  | [], _, w => rfl
  | x :: l, h, w => by
    rw [List.mapM_cons]
    simp only [Sem.run_bind, h x (by simp) w, Result.andThen_ok, run_mapM_list f g l (fun y hy => h y (by simp [hy])) w, Sem.run_pure, List.map_cons]
theorem run_mapM_array {α β : Type} (f : α → Sem β) (g : α → β) (l : Array α) (h : ∀ x, x ∈ l.toList → ∀ w, (f x).run P w = .ok (g x) w) (w : World) : (l.mapM f).run P w = .ok (l.map g) w := by
  rw [Array.mapM_eq_mapM_toList]
  simp only [Sem.run_map, run_mapM_list f g l.toList h w, Result.andThen_ok]
  congr 1
  apply Array.ext'
  simp
theorem build_sim (b : Base X φ σ a w) {t : TypeId} {gs : Array (Nat × Operand)} {ms : List (Nat × Nat × Opd)} {zs : List S} {r : V}
    (hok : (zeroIs P t zs && (match P.underlying t with
      | some (.struct fs) => sized P fs && okParts X.ρ (structPlace P fs) gs.toList ms
      | some (.array _ e) => (match sz P e with | some n => okParts X.ρ (fun i => some (i * n, n)) gs.toList ms | none => false)
      | _ => false)) = true)
    (h : quiet σ (.build zs ms) = some r) : ∃ u, (Instr.build t (gs.map fun (i, x) => (i, a.eval x))).run P w = .ok u w ∧ VRel X φ w r u := by
  simp only [Bool.and_eq_true] at hok
  obtain ⟨hz, hok⟩ := hok
  obtain ⟨z, z1, z2, _⟩ := zeroIs_run hz
  simp only [quiet] at h
  rw [obs] at h
  obtain ⟨ps, h1, h2⟩ := h
  rw [Option.map_eq_some_iff] at h2
  obtain ⟨cs, h2, rfl⟩ := h2
  have hgs : (gs.map fun (x : Nat × Operand) => match x with | (i, x) => (i, a.eval x)).toList = gs.toList.map fun p => (p.1, a.eval p.2) := by simp
  split at hok
  · rename_i fs hu
    simp only [Bool.and_eq_true] at hok
    obtain ⟨hs, hok⟩ := hok
    have hp := run_mapM_array (P := P) (fun (f : Field) => (do pure (f.offset, ← sizeOf f.type) : Sem (Nat × Nat))) (fun f => (f.offset, ((P.info? f.type).map (·.size)).getD 0)) fs (fun f hf w => by
      have := List.all_eq_true.1 hs f hf
      obtain ⟨i, hi⟩ := Option.isSome_iff_exists.1 this
      simp [sizeOf, typeInfo, hi]) w
    have e : (fun i => (fs.map fun f => (f.offset, ((P.info? f.type).map (·.size)).getD 0))[i]?) = structPlace P fs := by
      funext i
      simp only [structPlace, Array.getElem?_map]
      cases hf : fs[i]? with
      | none => rfl
      | some f =>
        have := List.all_eq_true.1 hs f (by
          have := Array.mem_of_getElem? hf
          simpa using this)
        obtain ⟨inf, hi⟩ := Option.isSome_iff_exists.1 this
        simp [sz, hi]
    refine ⟨_, ?_, av_mk cs⟩
    simp only [Instr.build, Sem.run_bind, z1 w, Result.andThen_ok, run_underlying hu w, hp, e, z2, hgs, fill_sim b hok h1 h2, Sem.run_pure]
  · rename_i n e hu
    split at hok
    · rename_i n hn
      have hsz : sizeIs P e n = true := by
        simp only [sz, Option.map_eq_some_iff] at hn
        obtain ⟨i, hi, rfl⟩ := hn
        simp [sizeIs, hi]
      refine ⟨_, ?_, av_mk cs⟩
      simp only [Instr.build, Sem.run_bind, z1 w, Result.andThen_ok, run_underlying hu w, run_sizeOf' hsz w, z2, hgs, fill_sim b hok h1 h2, Sem.run_pure]
    · cases hok
  · cases hok
theorem bound_sim {x : Option V} {u : Option Value} {dflt n y : Nat} {code : BoundsCode} (hx : match x, u with | none, none => True | some x, some u => VRel X φ w x u | _, _ => False) (h : bound x dflt = some n) (hy : n ≤ y) :
    match u with | none => n = dflt | some u => ∀ w, (Instr.sliceBound u y code).run P w = .ok n w := by
  cases x with
  | none =>
    cases u with
    | none => cases h; rfl
    | some u => exact hx.elim
  | some x =>
    cases u with
    | none => exact hx.elim
    | some u =>
      simp only [bound] at h
      rw [obs] at h
      obtain ⟨i, h1, h2⟩ := h
      split at h2
      · rename_i h0
        cases h2
        obtain ⟨k, rfl⟩ := asI_rel hx h1
        intro w
        have : 0 ≤ i ∧ i ≤ (y : Int) := ⟨h0, by omega⟩
        simp [Instr.sliceBound, asIntOf, this]
      · cases h2
theorem bounds_sim {lo hi : Option V} {u v : Option Value} {isSlice : Bool} {len cap l h : Nat}
    (hlo : match lo, u with | none, none => True | some x, some u => VRel X φ w x u | _, _ => False) (hhi : match hi, v with | none, none => True | some x, some u => VRel X φ w x u | _, _ => False)
    (h1 : bound lo 0 = some l) (h2 : bound hi len = some h) (hl : l ≤ h) (hh : h ≤ len) (hc : len ≤ cap) (w' : World) : (Instr.sliceBounds isSlice len cap u v none).run P w' = .ok (l, h, cap) w' := by
  have a1 := bound_sim (P := P) (code := .sliceB) hlo h1 hl
  have a2 := bound_sim (P := P) (code := if isSlice then .sliceAcap else .sliceAlen) (y := cap) hhi h2 (by omega)
  unfold Instr.sliceBounds
  cases v with
  | none =>
    simp only at a2
    subst a2
    cases u with
    | none =>
      simp only at a1
      subst a1
      simp
    | some u =>
      simp only at a1
      simp [a1]
  | some v =>
    simp only at a2
    cases u with
    | none =>
      simp only at a1
      subst a1
      simp [a2]
    | some u =>
      simp only at a1
      simp [a2, a1]
theorem okXo_sim (b : Base X φ σ a w) {x : Option Operand} {y : Option Opd} (h : okXo X.ρ x y = true) : match y.map (ev σ.env), x.map a.eval with | none, none => True | some x, some u => VRel X φ w x u | _, _ => False := by
  cases x with
  | none =>
    cases y with
    | none => trivial
    | some y => cases h
  | some x =>
    cases y with
    | none => cases h
    | some y => exact okX_sim b h
theorem sliceOf_eq {t e : TypeId} (h : sliceOf P t = some e) : P.underlying t = some (.slice e) := by
  unfold sliceOf at h
  split at h
  · rename_i hu; cases h; exact hu
  · cases h
theorem arrayOf_eq {t e : TypeId} {n : Nat} (h : arrayOf P t = some (n, e)) : P.underlying t = some (.array n e) := by
  unfold arrayOf at h
  split at h
  · rename_i hu; cases h; exact hu
  · cases h
theorem isStr_eq {t : TypeId} (h : isStr P t = true) : P.underlying t = some .string := by
  unfold isStr at h
  split at h
  · assumption
  · cases h
theorem intOf_eq {t : TypeId} {k : IntKind} (h : intOf? P t = some k) : P.underlying t = some (.int k) := by
  unfold intOf? at h
  split at h
  · rename_i hu; cases h; exact hu
  · cases h
theorem fieldOf_eq {t : TypeId} {f : Nat} {fd : Field} (h : fieldOf P t f = some fd) : ∃ fs, P.underlying t = some (.struct fs) ∧ fs[f]? = some fd := by
  unfold fieldOf at h
  split at h
  · rename_i fs hu; exact ⟨fs, hu, h⟩
  · cases h
theorem add_mid (b o n : Nat) : (⟨b, o, none⟩ : Addr).add n = ⟨b, o + n, none⟩ := Addr.add_mid b o n
theorem cut_addr (b ad n cap l es : Nat) (hl : l ≤ n) (hn : n ≤ cap) (x : Nat) (hx : cap ≠ 0 → ad = x) :
    ∃ ad', (if cap = l then some (⟨b, ad, none⟩ : Addr) else (some (⟨b, ad, none⟩ : Addr)).map (·.add (l * es))) = some ⟨b, ad', none⟩ ∧ (cap - l ≠ 0 → ad' = x + l * es) := by
  by_cases e : cap = l
  · exact ⟨ad, by simp [e], fun h => by omega⟩
  · refine ⟨ad + l * es, by simp [e, Addr.add_mid], fun h => ?_⟩
    rw [hx (by omega)]
theorem slc_sim (b : Base X φ σ a w) {t : TypeId} {k : SlK} {x r : V} {lo hi : Option V} {ux : Value} {u v : Option Value} (hx : VRel X φ w x ux)
    (hlo : match lo, u with | none, none => True | some x, some u => VRel X φ w x u | _, _ => False) (hhi : match hi, v with | none, none => True | some x, some u => VRel X φ w x u | _, _ => False)
    (hk : match k with | .str => isStr P t = true | .sl es => ∃ e, sliceOf P t = some e ∧ sizeIs P e es = true | .arr n es => (∃ e, arrayOf P t = some (n, e) ∧ sizeIs P e es = true) | .mp _ => False)
    (h : slc k x lo hi = some r) : ∃ z, (Instr.sliceAt t ux u v none).run P w = .ok z w ∧ VRel X φ w r z := by
  unfold slc at h
  split at h
  · -- a string
    rename_i s
    have hu := isStr_eq hk
    rw [sv_rel hx]
    rw [obs] at h
    obtain ⟨l, h1, h⟩ := h
    rw [obs] at h
    obtain ⟨m, h2, h⟩ := h
    split at h
    · rename_i hle
      cases h
      refine ⟨_, ?_, sv_mk _⟩
      have := bounds_sim (P := P) (isSlice := false) (len := s.length) (cap := s.length) hlo hhi h1 h2 hle.1 hle.2 (Nat.le_refl _) w
      simp only [Instr.sliceAt, Instr.slice, Sem.run_bind, run_underlying hu, Result.andThen_ok, enc]
      have es : (⟨s.toArray⟩ : ByteArray).size = s.length := rfl
      simp only [es, this, Option.isSome_none, Bool.false_eq_true, if_false, Result.andThen_ok, Sem.run_bind, Sem.run_pure]
      congr 2
      apply ByteArray.ext
      rw [ByteArray.data_extract]
      apply Array.ext'
      simp [List.extract_eq_take_drop]
    · cases h
  · -- nil
    obtain ⟨e, he, hes⟩ := hk
    have hu := sliceOf_eq he
    rw [sv_rel hx]
    rw [obs] at h
    obtain ⟨l, h1, h⟩ := h
    rw [obs] at h
    obtain ⟨m, h2, h⟩ := h
    split at h
    · rename_i hle
      obtain ⟨rfl, rfl⟩ := hle
      cases h
      have := bounds_sim (P := P) (isSlice := true) (len := 0) (cap := 0) hlo hhi h1 h2 (Nat.le_refl _) (Nat.le_refl _) (Nat.le_refl _) w
      refine ⟨_, ?_, sv_mk _⟩
      simp [Instr.sliceAt, Instr.slice, run_underlying hu, enc, this, run_sizeOf' hes w]
    · cases h
  · -- data
    rename_i es n es' cs
    obtain ⟨e, he, hes⟩ := hk
    have hu := sliceOf_eq he
    rw [obs] at h
    obtain ⟨l, h1, h⟩ := h
    rw [obs] at h
    obtain ⟨m, h2, h⟩ := h
    split at h
    · rename_i hle
      obtain ⟨hl, hm, rfl, hcs⟩ := hle
      cases h
      have hx : DRel _ _ _ _ _ := hx
      have hlm : (m - l) * es = m * es - l * es := Nat.sub_mul ..
      have hme : m * es ≤ n * es := Nat.mul_le_mul_right es hm
      cases hx with
      | sl0 _ _ ad cap hc0 =>
        subst hc0
        obtain rfl : m = 0 := by omega
        obtain rfl : l = 0 := by omega
        have := bounds_sim (P := P) (isSlice := true) (len := 0) (cap := cap) hlo hhi h1 h2 (Nat.le_refl _) (Nat.le_refl _) (Nat.zero_le _) w
        refine ⟨.slice ad 0 cap, ?_, DRel.sl0 es _ ad cap (by simp)⟩
        cases ad <;> simp [Instr.sliceAt, Instr.slice, run_underlying hu, this, run_sizeOf' hes w, Addr.add]
      | sl _ _ _ bb off cap hI hcap hl' hr =>
        have := bounds_sim (P := P) (isSlice := true) (len := n) (cap := cap) hlo hhi h1 h2 hl hm hcap w
        obtain ⟨ad', k1, k2⟩ := cut_addr bb off n cap l es (by omega) hcap off (fun _ => rfl)
        have hrun : (Instr.sliceAt t (.slice (some ⟨bb, off, none⟩) n cap) u v none).run P w = .ok (.slice (some ⟨bb, ad', none⟩) (m - l) (cap - l)) w := by
          simp only [Instr.sliceAt, Instr.slice, Sem.run_bind, run_underlying hu, Result.andThen_ok, this, run_sizeOf' hes w, Sem.run_pure]
          rw [k1]
        refine ⟨_, hrun, ?_⟩
        by_cases e : cap = l
        · obtain rfl : m = l := by omega
          simp only [Nat.sub_self, Nat.zero_mul, List.take_zero]
          exact DRel.sl0 _ _ _ _ rfl
        · obtain rfl := k2 (by omega)
          refine DRel.sl _ _ _ _ _ _ hI (by omega) ?_ (rangeAt_sub hr _ _)
          rw [List.length_take, List.length_drop]
          omega
    · cases h
  · -- of the call's own
    rename_i es o off n es'
    obtain ⟨e, he, hes⟩ := hk
    have hu := sliceOf_eq he
    rw [obs] at h
    obtain ⟨l, h1, h⟩ := h
    rw [obs] at h
    obtain ⟨m, h2, h⟩ := h
    split at h
    · rename_i hle
      obtain ⟨hl, hm, rfl⟩ := hle
      cases h
      obtain ⟨lc, ad, cap, g1, rfl, g3, g4, g5⟩ := hx
      have := bounds_sim (P := P) (isSlice := true) (len := n) (cap := cap) hlo hhi h1 h2 hl hm g3 w
      obtain ⟨ad', k1, k2⟩ := cut_addr lc.1 ad n cap l es (by omega) g3 (lc.2 + off) g4
      refine ⟨.slice (some ⟨lc.1, ad', none⟩) (m - l) (cap - l), ?_, lc, ad', cap - l, g1, rfl, by omega, fun h => by rw [k2 h]; omega, ?_⟩
      · simp only [Instr.sliceAt, Instr.slice, Sem.run_bind, run_underlying hu, Result.andThen_ok, this, run_sizeOf' hes w, Sem.run_pure]
        rw [k1]
      · have e1 : lc.2 + (off + l * es) + (cap - l) * es = lc.2 + off + cap * es := by
          rw [Nat.sub_mul]
          have := Nat.mul_le_mul_right es (show l ≤ cap by omega)
          omega
        rw [e1]; exact g5
    · cases h
  · cases h
theorem fieldAddr_run {t : TypeId} {f off : Nat} {p : Addr} {fd : Field} {n : Nat} (h : fieldOf P t f = some fd) (ho : fd.offset = off) (hn : sz P fd.type = some n) (h0 : n ≠ 0) (w : World) :
    (Instr.fieldAt t (.pointer (some p)) f).run P w = .ok (.pointer (some (p.add off))) w := by
  obtain ⟨fs, hu, hf⟩ := fieldOf_eq h
  have hsz : sizeIs P fd.type n = true := by
    simp only [sz, Option.map_eq_some_iff] at hn
    obtain ⟨i, hi, rfl⟩ := hn
    simp [sizeIs, hi]
  simp [Instr.fieldAt, run_underlying hu, hf, Instr.sureAddr, fieldPlace, run_sizeOf' hsz w, h0, ho]
theorem fadr_sim {off' : Nat} {x r : V} {u : Value} (hx : VRel X φ w x u) (h : fadr off' x = some r) : ∃ p, u = .pointer (some p) ∧ VRel X φ w r (.pointer (some (p.add off'))) := by
  unfold fadr at h
  split at h <;> first | (cases h; done) | (injection h with h; subst h)
  · obtain ⟨l, h1, rfl⟩ := hx
    exact ⟨_, rfl, l, h1, by rw [Addr.add_mid, Nat.add_assoc]⟩
  · obtain ⟨b, o, h1, rfl, h2⟩ := hx
    exact ⟨_, rfl, b, o, h1, by rw [Addr.add_mid, Nat.add_assoc], h2⟩
  · have hx : DRel _ _ _ _ _ := hx
    cases hx with
    | ref cs b o h1 h2 => exact ⟨_, rfl, b, o, h1, by rw [Addr.add_mid], h2⟩
theorem idxs_sim {t e : TypeId} {es : Nat} {x i r : V} {u v : Value} (hT : TokAt X.κ.n0 w ∧ ∀ b, b < X.κ.n0 → X.I b) (he : sliceOf P t = some e) (hes : sizeIs P e es = true) (hx : VRel X φ w x u) (hi : VRel X φ w i v) (h : idxs es x i = some r) :
    ∃ z, (Instr.indexAt t u v).run P w = .ok z w ∧ VRel X φ w r z := by
  have hu := sliceOf_eq he
  unfold idxs at h
  rw [obs] at h
  obtain ⟨n, h1, h⟩ := h
  obtain ⟨k, rfl⟩ := asI_rel hi h1
  split at h
  · cases h
  · rename_i h0
    split at h
    · rename_i o off len es'
      split at h
      · rename_i hlt
        obtain ⟨hlt, rfl⟩ := hlt
        cases h
        obtain ⟨l, ad, cap, g1, rfl, g3, g4, g5⟩ := hx
        have hc : 0 ≤ n ∧ n < (len : Int) := ⟨by omega, hlt⟩
        refine ⟨_, by simp [Instr.indexAt, run_underlying hu, asIntOf, hc, run_sizeOf' hes w]; rfl, l, g1, ?_⟩
        rw [Addr.add_mid, g4 (by omega), Nat.add_assoc]
      · cases h
    · rename_i len es' cs
      split at h
      · rename_i hlt
        obtain ⟨hlt, rfl, hcs⟩ := hlt
        cases h
        have hx : DRel _ _ _ _ _ := hx
        have hc : 0 ≤ n ∧ n < (len : Int) := ⟨by omega, hlt⟩
        cases hx with
        | sl0 => simp at hlt; omega
        | sl _ _ _ b off cap hI hcap hl hr =>
          exact ⟨_, by simp [Instr.indexAt, run_underlying hu, asIntOf, hc, run_sizeOf' hes w]; rfl, b, off, hI, by rw [Addr.add_mid], hr⟩
      · cases h
    · rename_i ds
      split at h
      · rename_i hlt
        obtain ⟨hlt, rfl⟩ := hlt
        cases h
        have hx : DRel _ _ _ _ _ := hx
        cases hx with
        | sld0 => simp at hlt; omega
        | sld _ len b off cap vs hI hcap hn hl hr hd =>
          subst hn
          have hc : 0 ≤ n ∧ n < (ds.length : Int) := ⟨by omega, hlt⟩
          exact ⟨_, by simp [Instr.indexAt, run_underlying hu, asIntOf, hc, run_sizeOf' hes w]; rfl, b, off, vs, hI, by rw [Addr.add_mid], hr, hl, hd⟩
      · cases h
    · rename_i j
      split at h
      · rename_i hlt
        obtain ⟨hlt, rfl⟩ := hlt
        cases h
        obtain ⟨bb, o, g1, g2, g3⟩ := hT.1 j (fun e => by rw [e] at hlt; simp at hlt; omega)
        have hc : 0 ≤ n ∧ n < ((Tok.dat j).length : Int) := ⟨by omega, hlt⟩
        rw [sv_rel hx]
        refine ⟨_, by simp [enc, g1, Instr.indexAt, run_underlying hu, asIntOf, hc, run_sizeOf' hes w]; rfl, bb, o, hT.2 bb g2, by rw [Addr.add_mid], g3⟩
      · cases h
    · cases h
theorem idxa_sim {t e : TypeId} {len es : Nat} {x i r : V} {u v : Value} (he : arrayOf P t = some (len, e)) (hes : sizeIs P e es = true) (hx : VRel X φ w x u) (hi : VRel X φ w i v) (h : idxa len es x i = some r) :
    ∃ z, (Instr.indexAt t u v).run P w = .ok z w ∧ VRel X φ w r z := by
  have hu := arrayOf_eq he
  unfold idxa at h
  rw [obs] at h
  obtain ⟨n, h1, h⟩ := h
  obtain ⟨k, rfl⟩ := asI_rel hi h1
  split at h
  · rename_i hc
    obtain ⟨p, rfl, hr⟩ := fadr_sim hx h
    exact ⟨_, by simp [Instr.indexAt, run_underlying hu, Instr.sureAddr, asIntOf, hc, run_sizeOf' hes w], hr⟩
  · cases h
theorem agg_part {t : TypeId} {agg : Bool} {n off : Nat} {cs : List S} {r : V} (hr : rowIs P t agg = true) (hs : sizeIs P t n = true) (h1 : agg = true ∨ n = 1) (h : loadC n agg cs off = some r) (w : World) :
    ∃ z, (part t (encs cs).toArray off).run P w = .ok z w ∧ VRel X φ w r z := by
  unfold loadC at h
  split at h
  · rename_i hle
    refine ⟨_, run_part hr hs h1 hle w, ?_⟩
    unfold ofCells at h
    cases agg with
    | true => simp at h; subst h; exact av_mk _
    | false =>
      simp at h
      split at h
      · rename_i heq
        cases h
        rw [heq]
        exact sv_mk _
      · cases h
  · cases h
theorem elems_sim (b : Base X φ σ a w) {es m : Nat} {x : V} {u : Value} {ys : List S} (hx : VRel X φ w x u) (h : elems σ.objs es x = some (m, ys)) :
    ys.length = m * es ∧ ((∃ p c, u = .slice (some p) m c ∧ p.spot = none ∧ w.rangeAt p.block p.off (encs ys) ∧ ys ≠ []) ∨ (∃ p c, u = .slice p m c ∧ ys = [] ∧ (m = 0 ∨ es = 0)) ∨ (∃ s : List UInt8, u = .string ⟨s.toArray⟩ ∧ es = 1 ∧ m = s.length ∧ ys = s.map fun b => .int .u8 b.toNat)) := by
  unfold elems at h
  split at h
  · cases h
    rw [sv_rel hx]
    exact ⟨by simp, .inr (.inl ⟨none, 0, rfl, rfl, .inl rfl⟩)⟩
  · rename_i n es' cs
    split at h
    · rename_i hc
      obtain ⟨rfl, hl⟩ := hc
      cases h
      refine ⟨hl, ?_⟩
      have hx : DRel _ _ _ _ _ := hx
      cases hx with
      | sl0 _ _ ad cap h0 => exact .inr (.inl ⟨ad, cap, rfl, h0, .inl rfl⟩)
      | sl _ _ _ bb off cap hI hcap hl' hr =>
        by_cases e : ys = []
        · subst e
          refine .inr (.inl ⟨_, cap, rfl, rfl, ?_⟩)
          exact Nat.mul_eq_zero.1 (by simpa using hl.symm)
        · exact .inl ⟨_, cap, rfl, rfl, hr, e⟩
    · cases h
  · rename_i o off n es'
    split at h
    · rename_i p cs hob
      split at h
      · rename_i hc
        obtain ⟨rfl, hle⟩ := hc
        cases h
        obtain ⟨l, ad, cap, g1, rfl, g3, g4, g5⟩ := hx
        obtain ⟨l', g1', g6⟩ := b.objs _ _ hob
        rw [g1] at g1'; cases g1'
        have hlen : ((cs.drop off).take (m * es)).length = m * es := by rw [List.length_take, List.length_drop]; omega
        refine ⟨hlen, ?_⟩
        by_cases e : (cs.drop off).take (m * es) = []
        · rw [e] at hlen ⊢
          refine .inr (.inl ⟨_, cap, rfl, rfl, ?_⟩)
          exact Nat.mul_eq_zero.1 (by simpa using hlen.symm)
        · refine .inl ⟨_, cap, rfl, rfl, ?_, e⟩
          have : m ≠ 0 := fun h0 => e (by simp [h0])
          show w.rangeAt l.1 ad _
          rw [g4 (by omega)]
          exact rangeAt_sub (flat_range g6) off (m * es)
      · cases h
    · cases h
  · rename_i s
    split at h
    · rename_i he
      cases h
      rw [sv_rel hx]
      exact ⟨by simp [he], .inr (.inr ⟨s, rfl, he, rfl, rfl⟩)⟩
    · cases h
  · cases h
theorem asAs_sim {xs : List V} {ys : List A} {vs : List Value} (h : asAs xs = some ys) (hr : All2 (VRel X φ w) xs vs) : All2 (ARel X φ w) ys vs := by
  induction xs generalizing ys vs with
  | nil => cases h; rw [hr.nil_left]; exact .nil
  | cons x xs ih =>
    obtain ⟨v, vs', rfl, h1, h2⟩ := hr.head
    unfold asAs at h
    split at h
    · rename_i heq; cases heq
    · rename_i heq
      cases heq
      rw [Option.map_eq_some_iff] at h
      obtain ⟨ys', h3, rfl⟩ := h
      exact .cons h1 (ih h3 h2)
    · cases h
end
end Go.DM
