/- Every operation of the small machine that only computes or reads does what the program's own does. -/
import Derived.Test.YtaocbbdkiemhaaaK139Map
import Derived.Laws.BytesString
set_option linter.unusedSimpArgs false
set_option linter.unusedVariables false
namespace Go.DM
set_option linter.unusedSectionVars false
variable [Tok]
section
variable {P : Program} {X : Cx} {φ : Nat → Option Loc} {w : World} {σ : St} {a : Act}

theorem lenV_sim {k : SlK} {x : V} {n : Nat} {u : Value} {t t' : TypeId} (hx : VRel X φ w x u) (h : lenV k x = some n)
    (hk : match k with | .str => isStr P t = true | .sl _ => (sliceOf P t).isSome = true | .arr n _ => ∃ e, arrayOf P t = some (n, e)) :
    (Builtin.len_ #[t] t' #[u]).run P w = .ok (.int .i64 n) w := by
  unfold lenV at h
  split at h
  · cases h
    rw [sv_rel hx]
    simp [Builtin.len_, run_underlying (isStr_eq hk), enc, goInt]
    rfl
  · cases h
    obtain ⟨e, he⟩ := Option.isSome_iff_exists.1 hk
    rw [sv_rel hx]
    simp [Builtin.len_, run_underlying (sliceOf_eq he), enc, goInt]
  · cases h
    obtain ⟨e, he⟩ := Option.isSome_iff_exists.1 hk
    rw [sv_rel hx]
    simp [Builtin.len_, run_underlying (sliceOf_eq he), enc, goInt]
  · cases h
    obtain ⟨e, he⟩ := Option.isSome_iff_exists.1 hk
    have hx : DRel _ _ _ _ _ := hx
    cases hx <;> simp [Builtin.len_, run_underlying (sliceOf_eq he), goInt]
  · cases h
    obtain ⟨e, he⟩ := Option.isSome_iff_exists.1 hk
    have hx : DRel _ _ _ _ _ := hx
    cases hx with
    | sld0 => simp [Builtin.len_, run_underlying (sliceOf_eq he), goInt]
    | sld _ _ _ _ _ _ _ _ hn => simp [Builtin.len_, run_underlying (sliceOf_eq he), goInt, hn]
  · cases h
    obtain ⟨e, he⟩ := Option.isSome_iff_exists.1 hk
    obtain ⟨l, ad, cap, _, rfl, _⟩ := hx
    simp [Builtin.len_, run_underlying (sliceOf_eq he), goInt]
  · cases h
    obtain ⟨e, he⟩ := hk
    simp [Builtin.len_, run_underlying (arrayOf_eq he), goInt]
  · cases h

theorem unop_sim {op : UnOp} {x r : V} {u : Value} (hx : VRel X φ w x u) (h : unop op x = some r) : ∃ z, (Op.unary op u).run P w = .ok z w ∧ VRel X φ w r z := by
  unfold unop at h
  split at h
  · cases h
    rw [sv_rel hx]
    exact ⟨_, rfl, sv_mk _⟩
  · cases h
    rw [sv_rel hx]
    exact ⟨_, rfl, sv_mk _⟩
  · cases h

theorem convInt_sim {s d : TypeId} {k : IntKind} {x r : V} {u : Value} (hx : VRel X φ w x u) (h : convInt k x = some r) (hd : P.underlying d = some (.int k)) (hs : (P.underlying s).isSome = true) :
    ∃ z, (convert s d u).run P w = .ok z w ∧ VRel X φ w r z := by
  unfold convInt at h
  split at h
  · cases h
    rw [sv_rel hx]
    obtain ⟨ds, hs⟩ := Option.isSome_iff_exists.1 hs
    refine ⟨_, ?_, sv_mk _⟩
    simp [convert, run_underlying hd, run_underlying hs, enc_int, Conv.intToInt]
  · cases h

theorem convSame_sim {s d : TypeId} {x r : V} {u : Value} (hx : VRel X φ w x u) (h : convSame x = some r) (hd : P.underlying d = some .string) (hs : P.underlying s = some .string) :
    ∃ z, (convert s d u).run P w = .ok z w ∧ VRel X φ w r z := by
  unfold convSame at h
  split at h
  · cases h
    rw [sv_rel hx]
    refine ⟨_, ?_, sv_mk _⟩
    simp [convert, run_underlying hd, run_underlying hs, enc_str]
  · cases h

theorem mm_sim {mx : Bool} {x y r : V} {u v : Value} (hx : VRel X φ w x u) (hy : VRel X φ w y v) (h : mm mx x y = some r) :
    ∃ z, (if mx then Builtin.max2 u v else Builtin.min2 u v).run P w = .ok z w ∧ VRel X φ w r z := by
  unfold mm at h
  split at h
  · cases h
    rw [sv_rel hx, sv_rel hy]
    refine ⟨_, ?_, sv_mk _⟩
    cases mx <;> simp [enc_int, Builtin.max2, Builtin.min2]
  · cases h

theorem len_sim {ts : Array TypeId} {k : SlK} {x : V} {n : Nat} {u : Value} {t' : TypeId} (h2 : (match ts.toList, k with
    | [T], .str => isStr P T
    | [T], .sl _ => (sliceOf P T).isSome
    | [T], .arr n _ => (match arrayOf P T with | some (n', _) => n == n' | none => false)
    | _, _ => false) = true) (hx : VRel X φ w x u) (h : lenV k x = some n) : (Builtin.len_ ts t' #[u]).run P w = .ok (.int .i64 n) w := by
  obtain ⟨ts⟩ := ts
  simp only at h2
  split at h2
  · exact lenV_sim (k := .str) hx h h2
  · exact lenV_sim (k := .sl _) hx h h2
  · rename_i T m es
    split at h2
    · rename_i e he'
      have e1 := eq_of_beq h2
      subst e1
      exact lenV_sim (k := .arr m es) hx h ⟨_, he'⟩
    · cases h2
  · cases h2

theorem args1 {gs : Array Operand} {x : Opd} {ρ : Nat → Nat} (h : okXs ρ gs.toList [x] = true) : ∃ g, gs = #[g] ∧ okX ρ g x = true := by
  obtain ⟨gs⟩ := gs
  cases gs with
  | nil => simp [okXs] at h
  | cons g gs =>
    cases gs with
    | nil => exact ⟨g, rfl, by simpa [okXs] using h⟩
    | cons g' gs => simp [okXs] at h

theorem args2 {gs : Array Operand} {x y : Opd} {ρ : Nat → Nat} (h : okXs ρ gs.toList [x, y] = true) : ∃ g g', gs = #[g, g'] ∧ okX ρ g x = true ∧ okX ρ g' y = true := by
  obtain ⟨gs⟩ := gs
  cases gs with
  | nil => simp [okXs] at h
  | cons g gs =>
    cases gs with
    | nil => simp [okXs] at h
    | cons g' gs =>
      cases gs with
      | nil => exact ⟨g, g', rfl, by simpa [okXs] using h⟩
      | cons g'' gs => simp [okXs] at h

theorem types1 {ts : Array TypeId} {Q : TypeId → Bool} (h : (match ts.toList with | [T] => Q T | _ => false) = true) : ∃ T, ts = #[T] ∧ Q T = true := by
  obtain ⟨ts⟩ := ts
  simp only at h
  split at h
  · exact ⟨_, rfl, h⟩
  · cases h

theorem bytesOf_map : ∀ {cs : List S} {s : List UInt8}, bytesOf cs = some s → ∃ ns : List Int, encs cs = ns.map (Value.int .u8) ∧ ∀ r : ByteArray, ns.foldl (fun r n => r.push (UInt8.ofNat n.toNat)) r = ⟨r.data ++ s.toArray⟩
  | [], s, h => by cases h; exact ⟨[], rfl, fun r => by simp⟩
  | x :: cs, s, h => by
    unfold bytesOf at h
    split at h
    · rename_i heq; cases heq
    · rename_i n r heq
      cases heq
      rw [Option.map_eq_some_iff] at h
      obtain ⟨s', h1, rfl⟩ := h
      obtain ⟨ns, h2, h3⟩ := bytesOf_map h1
      refine ⟨n :: ns, by simp [encs, enc] at h2 ⊢; exact h2, ?_⟩
      intro r
      rw [List.foldl_cons, h3]
      simp [ByteArray.push]
    · cases h
theorem ofBytes_sim (b : Base X φ σ a w) {S T e : TypeId} {m : Nat} {x : V} {u : Value} {ys : List DM.S} {s : List UInt8} (hs : P.underlying S = some (.slice e)) (he : P.underlying e = some (.int .u8)) (hd : P.underlying T = some .string)
    (hx : VRel X φ w x u) (h1 : elems σ.objs 1 x = some (m, ys)) (h2 : bytesOf ys = some s) : ∃ z, (convert S T u).run P w = .ok z w ∧ VRel X φ w (sv (.str s)) z := by
  obtain ⟨hl, hc⟩ := elems_sim b hx h1
  obtain ⟨ns, e1, e2⟩ := bytesOf_map h2
  rcases hc with ⟨p, c, rfl, hp, hr, _⟩ | ⟨p, c, rfl, rfl, hm⟩ | ⟨t, rfl, _, rfl, rfl⟩
  · have hld : (loadCells p m).run P w = .ok (ns.map (Value.int .u8)).toArray w := by
      have : m = (encs ys).length := by rw [encs_length]; omega
      rw [this, ← e1]
      obtain ⟨pb, po, ps⟩ := p
      simp only at hp hr
      subst hp
      exact run_loadCells_list (P := P) w ⟨pb, po, none⟩ (encs ys) (fun j v hj => by rw [Addr.add_mid]; exact hr j v hj)
    refine ⟨_, (run_convert_bytes_string w S T e _ _ _ hs he hd).trans (run_bytesToString w p m c ns hld), ?_⟩
    · rw [e2]
      have : (⟨ByteArray.empty.data ++ s.toArray⟩ : ByteArray) = ⟨s.toArray⟩ := by congr 1; exact Array.empty_append
      rw [this]
      exact sv_mk (.str s)
  · obtain rfl : m = 0 := by omega
    cases h2
    refine ⟨.string .empty, (run_convert_bytes_string w S T e _ _ _ hs he hd).trans ?_, sv_mk (.str [])⟩
    cases p with
    | none => rfl
    | some p =>
      have := run_bytesToString (P := P) w p 0 c [] (by simp [loadCells, loadCellsFrom])
      simpa using this
  · refine ⟨.string ⟨t.toArray⟩, by simp [convert, run_underlying hs, run_underlying hd], ?_⟩
    have : s = t := by
      have key : ∀ t : List UInt8, bytesOf (t.map fun b => .int .u8 b.toNat) = some t := by
        intro t
        induction t with
        | nil => rfl
        | cons c r ih => simp [bytesOf, ih]
      rw [key] at h2
      cases h2; rfl
    subst this
    exact sv_mk (.str s)

theorem quiet_sim (b : Base X φ σ a w) {g : Go.Oper} {m : Op} {r : V} (hok : okO P X.ρ g.op m = true) (h : quiet σ m = some r) :
    ∃ u, (execOp a.eval g).run P w = .ok (.value u) w ∧ VRel X φ w r u := by
  obtain ⟨gd, gop, gt, gp, ga, gg⟩ := g
  simp only at hok
  unfold okO at hok
  split at hok
  · -- move
    cases h
    exact ⟨_, rfl, okX_sim b hok⟩
  · cases h
    exact ⟨_, rfl, okX_sim b hok⟩
  · simp [quiet] at h
  · -- pick
    simp only [Bool.and_eq_true] at hok
    obtain ⟨⟨h1, h2⟩, h3⟩ := hok
    simp only [quiet] at h
    split at h
    · rename_i t heq
      cases h
      have := sv_rel (heq ▸ okX_sim b h1)
      refine ⟨_, by simp [execOp, this, enc, asBool]; rfl, ?_⟩
      cases t
      · exact okX_sim b h3
      · exact okX_sim b h2
    · cases h
  · simp [quiet] at h
  · simp [quiet] at h
  · -- build
    obtain ⟨u, h1, h2⟩ := build_sim b hok h
    exact ⟨u, run_v h1, h2⟩
  · simp [quiet] at h
  · simp [quiet] at h
  · -- load
    simp only [Bool.and_eq_true] at hok
    obtain ⟨⟨⟨h1, h2⟩, h3⟩, _⟩ := hok
    obtain ⟨u, g1, g2⟩ := load_sim b h3 h2 (okX_sim b h1) h
    exact ⟨u, run_v g1, g2⟩
  · simp [quiet] at h
  · -- nilCheck
    obtain ⟨rfl, h2⟩ := nilc_sim (okX_sim b hok) h
    refine ⟨_, ?_, okX_sim b hok⟩
    simp only [execOp]
    rcases h2 with ⟨p, hp⟩ | ⟨f, ps, qs, hp⟩ <;> rw [hp] <;> rfl
  · -- binOp
    simp only [Bool.and_eq_true] at hok
    obtain ⟨⟨h1, h2⟩, h3⟩ := hok
    have e := eq_of_beq h1
    subst e
    obtain ⟨u, g1, g2⟩ := bin_sim (P := P) (okX_sim b h2) (okX_sim b h3) h
    exact ⟨u, run_v g1, g2⟩
  · -- ==
    simp only [Bool.and_eq_true] at hok
    obtain ⟨⟨⟨⟨h1, h2⟩, h3⟩, h4⟩, h5⟩ := hok
    obtain ⟨u, g1, g2⟩ := eqa_sim (P := P) (neg := false) h3 h4 h5 (okX_sim b h1) (okX_sim b h2) h
    exact ⟨u, run_v g1, g2⟩
  · simp only [Bool.and_eq_true] at hok
    obtain ⟨⟨⟨⟨h1, h2⟩, h3⟩, h4⟩, h5⟩ := hok
    obtain ⟨u, g1, g2⟩ := eqa_sim (P := P) (neg := true) h3 h4 h5 (okX_sim b h1) (okX_sim b h2) h
    exact ⟨u, run_v g1, g2⟩
  · -- unOp
    simp only [Bool.and_eq_true] at hok
    obtain ⟨h1, h2⟩ := hok
    have e := eq_of_beq h1
    subst e
    obtain ⟨z, g1, g2⟩ := unop_sim (P := P) (okX_sim b h2) h
    exact ⟨z, run_v g1, g2⟩
  · -- a number's kind
    simp only [Bool.and_eq_true] at hok
    obtain ⟨⟨h1, h2⟩, h3⟩ := hok
    obtain ⟨z, g1, g2⟩ := convInt_sim (P := P) (okX_sim b h1) h (intOf_eq (eq_of_beq h2)) h3
    exact ⟨z, run_v g1, g2⟩
  · -- bytes to a string
    simp only [Bool.and_eq_true] at hok
    obtain ⟨⟨h1, h2⟩, h3⟩ := hok
    split at h3
    · rename_i e he
      simp only [Bool.and_eq_true] at h3
      simp only [quiet] at h
      rw [Option.bind_eq_some_iff] at h
      obtain ⟨⟨m, ys⟩, h4, h⟩ := h
      rw [Option.map_eq_some_iff] at h
      obtain ⟨s, h5, rfl⟩ := h
      obtain ⟨z, g1, g2⟩ := ofBytes_sim (P := P) b (sliceOf_eq he) (intOf_eq (eq_of_beq h3.1)) (isStr_eq h2) (okX_sim b h1) h4 h5
      exact ⟨z, run_v g1, g2⟩
    · cases h3
  · -- a string as it is
    simp only [Bool.and_eq_true] at hok
    obtain ⟨⟨h1, h2⟩, h3⟩ := hok
    obtain ⟨z, g1, g2⟩ := convSame_sim (P := P) (okX_sim b h1) h (isStr_eq h2) (isStr_eq h3)
    exact ⟨z, run_v g1, g2⟩
  · -- a function's value
    simp only [Bool.and_eq_true] at hok
    obtain ⟨⟨h1, h2⟩, h3⟩ := hok
    have e := eq_of_beq h1
    subst e
    simp only [quiet] at h
    rw [Option.bind_eq_some_iff] at h
    obtain ⟨p, h4, h⟩ := h
    rw [Option.map_eq_some_iff] at h
    obtain ⟨q, h5, rfl⟩ := h
    refine ⟨_, by simp [execOp, Instr.makeFunc]; rfl, _, _, ?_, asAs_sim h4 (okXs_sim b h2), asAs_sim h5 (okXs_sim b h3)⟩
    congr 1 <;> (apply Array.ext'; simp)
  · -- a part of a string
    simp only [Bool.and_eq_true] at hok
    obtain ⟨⟨⟨h1, h2⟩, h3⟩, h4⟩ := hok
    obtain ⟨u, g1, g2⟩ := slc_sim b (okX_sim b h1) (okXo_sim b h2) (okXo_sim b h3) h4 h
    exact ⟨u, run_v g1, g2⟩
  · -- a part of a slice
    simp only [Bool.and_eq_true] at hok
    obtain ⟨⟨⟨h1, h2⟩, h3⟩, h4⟩ := hok
    split at h4
    · rename_i e he
      obtain ⟨u, g1, g2⟩ := slc_sim (k := .sl _) b (okX_sim b h1) (okXo_sim b h2) (okXo_sim b h3) ⟨e, he, h4⟩ h
      exact ⟨u, run_v g1, g2⟩
    · cases h4
  · -- a field
    simp only [Bool.and_eq_true] at hok
    obtain ⟨h1, h2⟩ := hok
    split at h2
    · rename_i fd hf
      simp only [Bool.and_eq_true] at h2
      obtain ⟨⟨⟨h3, h4⟩, h5⟩, h6⟩ := h2
      have e := eq_of_beq h3
      simp only [quiet] at h
      split at h
      · rename_i cs heq
        have hv := av_rel (heq ▸ okX_sim b h1)
        obtain ⟨fs, hu, hf'⟩ := fieldOf_eq hf
        obtain ⟨z, g1, g2⟩ := agg_part (X := X) (φ := φ) h5 h4 (by simpa using h6) h w
        refine ⟨z, run_v ?_, g2⟩
        simp [Instr.field, run_underlying hu, hf', hv, asAgg, e, g1]
      · cases h
    · cases h2
  · -- a field's place
    simp only [Bool.and_eq_true] at hok
    obtain ⟨h1, h2⟩ := hok
    split at h2
    · rename_i fd hf
      simp only [Bool.and_eq_true] at h2
      obtain ⟨h3, h4⟩ := h2
      split at h4
      · rename_i n hn
        obtain ⟨p, g1, g2⟩ := fadr_sim (okX_sim b h1) h
        refine ⟨_, run_v ?_, g2⟩
        rw [g1]
        exact fieldAddr_run hf (eq_of_beq h3) hn (by simpa using h4) w
      · cases h4
    · cases h2
  · -- an element's place
    simp only [Bool.and_eq_true] at hok
    obtain ⟨⟨h1, h2⟩, h3⟩ := hok
    split at h3
    · rename_i e he
      obtain ⟨z, g1, g2⟩ := idxs_sim b.toks he h3 (okX_sim b h1) (okX_sim b h2) h
      exact ⟨z, run_v g1, g2⟩
    · cases h3
  · -- an array's element's place
    simp only [Bool.and_eq_true] at hok
    obtain ⟨⟨h1, h2⟩, h3⟩ := hok
    split at h3
    · rename_i n e he
      simp only [Bool.and_eq_true] at h3
      have e' := eq_of_beq h3.1
      subst e'
      obtain ⟨z, g1, g2⟩ := idxa_sim he h3.2 (okX_sim b h1) (okX_sim b h2) h
      exact ⟨z, run_v g1, g2⟩
    · cases h3
  · -- a string's byte
    simp only [Bool.and_eq_true] at hok
    obtain ⟨⟨h1, h2⟩, h3⟩ := hok
    simp only [quiet] at h
    split at h
    · rename_i s k i heq1 heq2
      have e1 := sv_rel (heq1 ▸ okX_sim b h1)
      have e2 := sv_rel (heq2 ▸ okX_sim b h2)
      split at h
      · rename_i h0
        rw [Option.map_eq_some_iff] at h
        obtain ⟨c, hc, rfl⟩ := h
        refine ⟨_, run_v ?_, sv_mk _⟩
        have : (⟨s.toArray⟩ : ByteArray)[i.toNat]? = some c := by
          rw [← hc]
          simp only [getElem?_def, ByteArray.size, List.size_toArray]
          rfl
        simp [Instr.index, e1, e2, enc, asIntOf, run_underlying (isStr_eq h3), h0, this]
      · cases h
    · cases h
  · -- an array's element
    simp only [Bool.and_eq_true] at hok
    obtain ⟨⟨h1, h2⟩, h3⟩ := hok
    split at h3
    · rename_i n e he
      simp only [Bool.and_eq_true] at h3
      obtain ⟨⟨⟨h3, h4⟩, h5⟩, h6⟩ := h3
      have e' := eq_of_beq h3
      subst e'
      simp only [quiet] at h
      split at h
      · rename_i cs k i heq1 heq2
        have e1 := av_rel (heq1 ▸ okX_sim b h1)
        have e2 := sv_rel (heq2 ▸ okX_sim b h2)
        split at h
        · rename_i hc
          obtain ⟨z, g1, g2⟩ := agg_part (X := X) (φ := φ) h5 h4 (by simpa using h6) h w
          refine ⟨z, run_v ?_, g2⟩
          simp [Instr.index, e1, e2, enc, asIntOf, run_underlying (arrayOf_eq he), hc, run_sizeOf' h4 w, g1]
        · cases h
      · cases h
    · cases h3
  · -- a part of a tuple
    simp only [Bool.and_eq_true] at hok
    obtain ⟨h1, h2⟩ := hok
    have e := eq_of_beq h2
    subst e
    simp only [quiet] at h
    split at h
    · rename_i xs heq
      obtain ⟨vs, g1, g2⟩ : VRel X φ w (.tup xs) _ := heq ▸ okX_sim b h1
      rw [Option.map_eq_some_iff] at h
      obtain ⟨x, hx, rfl⟩ := h
      obtain ⟨v, g3, g4⟩ := g2.get hx
      refine ⟨v, run_v ?_, g4⟩
      simp [Instr.extract, g1, g3]
    · cases h
  · simp [quiet] at h
  · simp [quiet] at h
  · simp [quiet] at h
  · -- len
    simp only [Bool.and_eq_true] at hok
    obtain ⟨h1, h2⟩ := hok
    obtain ⟨x, rfl, h4⟩ := args1 h1
    simp only [quiet] at h
    rw [Option.map_eq_some_iff] at h
    obtain ⟨n, h3, rfl⟩ := h
    have := len_sim (t' := gt) h2 (okX_sim b h4) h3
    refine ⟨_, ?_, sv_mk _⟩
    simp [execOp, resolve, invoke, builtin, this, enc_int]
  · -- max
    obtain ⟨x, y, rfl, h1, h2⟩ := args2 hok
    obtain ⟨z, g1, g2⟩ := mm_sim (P := P) (okX_sim b h1) (okX_sim b h2) h
    exact ⟨z, by simpa [execOp, resolve, invoke, builtin, Builtin.max_] using run_v g1, g2⟩
  · obtain ⟨x, y, rfl, h1, h2⟩ := args2 hok
    obtain ⟨z, g1, g2⟩ := mm_sim (P := P) (okX_sim b h1) (okX_sim b h2) h
    exact ⟨z, by simpa [execOp, resolve, invoke, builtin, Builtin.min_] using run_v g1, g2⟩
  · simp [quiet] at h
  · simp [quiet] at h
  · simp [quiet] at h
  · simp [quiet] at h
  · simp [quiet] at h
  · -- a map's value
    simp only [Bool.and_eq_true] at hok
    obtain ⟨⟨⟨⟨h1, h2⟩, h3⟩, h4⟩, h5⟩ := hok
    have e := eq_of_beq h3
    subst e
    obtain ⟨z, g1, g2⟩ := lookup_sim (P := P) b h4 h5 (okX_sim b h1) (okX_sim b h2) h
    exact ⟨z, run_v g1, g2⟩
  · simp [quiet] at h
  · simp [quiet] at h
  · simp [quiet] at h
  · simp [quiet] at h
  · cases hok
end
end Go.DM
