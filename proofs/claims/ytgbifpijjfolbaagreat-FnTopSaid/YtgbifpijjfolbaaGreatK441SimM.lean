/- A region that draws its order: all orders give the same. -/
import Derived.Test.YtgbifpijjfolbaaGreatK441SimL
set_option linter.all false
namespace Go.DM
variable [Tok]
theorem contains_false {xs : List Nat} {o : Nat} : xs.contains o = false ↔ o ∉ xs := by
  rw [← Bool.not_eq_true, List.contains_iff_mem]
theorem deadA_mono {ks hid : List Nat} (h : ∀ i ∈ ks, i ∈ hid) {x : A} (hx : deadA ks x = true) : deadA hid x = true := by
  cases x <;> simp_all [deadA]
theorem deadA_dead (ks : List Nat) : deadA ks .dead = false := rfl
theorem kill_map {p q r : A → Bool} (h : ∀ x, r x = (p x || q x)) (hp : p .dead = false) (xs : List A) :
    (xs.map fun x => if q x then A.dead else x).map (fun x => if p x then A.dead else x) = xs.map fun x => if r x then A.dead else x := by
  rw [List.map_map]
  apply List.map_congr_left
  intro x _
  simp only [Function.comp, h]
  cases q x with
  | true => simp [hp]
  | false => simp
theorem kill_two (a b c : List Nat) (h : ∀ x, deadA c x = (deadA a x || deadA b x)) (v : V) : killV a (killV b v) = killV c v := by
  have ha : ∀ xs : List A, xs.any (deadA c) = (xs.any (deadA a) || xs.any (deadA b)) := fun xs => by
    induction xs with
    | nil => rfl
    | cons x xs ih => simp only [List.any_cons, h, ih]; cases deadA a x <;> cases deadA b x <;> simp
  cases v with
  | a x =>
    simp only [killV, h]
    cases e : deadA b x with
    | true => simp [killV]
    | false => simp [killV]
  | clo f p q =>
    simp only [killV, ha]
    cases e1 : p.any (deadA b) <;> cases e2 : q.any (deadA b) <;> simp [killV]
  | tup xs =>
    simp only [killV]
    rw [kill_map h (deadA_dead a)]
  | undef => rfl
theorem deadA_sub {ks hid : List Nat} (h : ∀ i ∈ ks, i ∈ hid) (x : A) : deadA hid x = (deadA hid x || deadA ks x) := by
  cases e : deadA ks x with
  | true => rw [deadA_mono h e]; rfl
  | false => simp
theorem killV_absorb {ks hid : List Nat} (h : ∀ i ∈ ks, i ∈ hid) (v : V) : killV hid (killV ks v) = killV hid v := kill_two _ _ _ (deadA_sub h) v
theorem killV_idem {ks hid : List Nat} (h : ∀ i ∈ ks, i ∈ hid) (v : V) : killV ks (killV hid v) = killV hid v :=
  kill_two _ _ _ (fun x => by rw [Bool.or_comm]; exact deadA_sub h x) v
theorem killV_comm (a b : List Nat) (v : V) : killV a (killV b v) = killV b (killV a v) := by
  have h1 : ∀ x, deadA (a ++ b) x = (deadA a x || deadA b x) := fun x => by cases x <;> simp [deadA]
  rw [kill_two a b (a ++ b) h1, kill_two b a (a ++ b) fun x => by rw [Bool.or_comm]; exact h1 x]
theorem killO_absorb {ks hid : List Nat} (h : ∀ i ∈ ks, i ∈ hid) (v : Ob) : killO hid (killO ks v) = killO hid v := by
  cases v <;> simp only [killO, killV_absorb h]
  rw [kill_map (deadA_sub h) rfl]
theorem killO_idem {ks hid : List Nat} (h : ∀ i ∈ ks, i ∈ hid) (v : Ob) : killO ks (killO hid v) = killO hid v := by
  have hx : ∀ x, deadA hid x = (deadA ks x || deadA hid x) := fun x => by rw [Bool.or_comm]; exact deadA_sub h x
  cases v <;> simp only [killO, killV_idem h]
  rw [kill_map hx rfl]
theorem killO_comm (a b : List Nat) (v : Ob) : killO a (killO b v) = killO b (killO a v) := by
  have h1 : ∀ x, deadA (a ++ b) x = (deadA a x || deadA b x) := fun x => by cases x <;> simp [deadA]
  have h2 : ∀ x, deadA (a ++ b) x = (deadA b x || deadA a x) := fun x => by rw [Bool.or_comm]; exact h1 x
  cases v <;> simp only [killO]
  · rw [killV_comm]
  · rw [kill_map h1 rfl, kill_map h2 rfl]
theorem St.ext' {σ τ : St} (h1 : ∀ t, σ.env t = τ.env t) (h2 : ∀ o, σ.objs o = τ.objs o) : σ = τ := by
  cases σ; cases τ
  simp only [St.mk.injEq]
  exact ⟨funext h1, funext h2⟩
theorem applyD_objs (dst : Option Nat) (r : Dl) (σ : St) (o : Nat) : (applyD dst r σ).objs o = match lookP r.puts o with | some x => some x | none => if r.kills.contains o then none else (σ.objs o).map (killO r.kills) := by
  have e1 : ∀ (v : V) (σ : St), (set dst v σ).objs = σ.objs := fun v σ => by cases dst <;> rfl
  rw [applyD, e1, objs_insertAll]
  rfl
theorem applyD_env (dst : Option Nat) (r : Dl) (σ : St) (t : Nat) : (applyD dst r σ).env t = if dst = some t then r.v else killV r.kills (σ.env t) := by
  have e1 : ∀ (v : V) (σ : St) t, (set dst v σ).env t = if dst = some t then v else σ.env t := by
    intro v σ t
    cases dst with
    | none => simp [set]
    | some d' => simp only [set, upd]; by_cases e : t = d' <;> simp [e, eq_comm]
  rw [applyD, e1, env_insertAll]
  rfl
def indep (x y : Oper) : Bool :=
  x.wr.all y.hid.contains && y.wr.all x.hid.contains && x.wr.all (fun o => !y.wr.contains o) &&
  (match x.dst with | some d => !y.sees.contains d && !(y.dst == some d) | none => true) && (match y.dst with | some d => !x.sees.contains d | none => true)
structure Indep (x y : Oper) : Prop where
  xy : ∀ o ∈ x.wr, o ∈ y.hid
  yx : ∀ o ∈ y.wr, o ∈ x.hid
  no : ∀ o ∈ x.wr, o ∉ y.wr
  dx : ∀ d, x.dst = some d → d ∉ y.sees
  dy : ∀ d, y.dst = some d → d ∉ x.sees
  ne : ∀ d, x.dst = some d → y.dst ≠ some d
theorem indep_spec {x y : Oper} (h : indep x y = true) : Indep x y := by
  simp only [indep, Bool.and_eq_true, List.all_eq_true, List.contains_iff_mem] at h
  obtain ⟨⟨⟨⟨h1, h2⟩, h3⟩, h4⟩, h5⟩ := h
  refine ⟨h1, h2, fun o ho => ?_, fun d hd => ?_, fun d hd => ?_, fun d hd => ?_⟩
  · have := h3 o ho; simpa using this
  · rw [hd] at h4; simp only [Bool.and_eq_true] at h4; simpa using h4.1
  · rw [hd] at h5; simpa using h5
  · rw [hd] at h4; simp only [Bool.and_eq_true] at h4; simpa using h4.2
theorem Indep.symm {x y : Oper} (h : Indep x y) : Indep y x := ⟨h.yx, h.xy, fun o h1 h2 => h.no o h2 h1, h.dy, h.dx, fun d h1 h2 => h.ne d h2 h1⟩
theorem lookP_none {ps : List (Nat × Ob)} {o : Nat} (h : ∀ p ∈ ps, p.1 ≠ o) : lookP ps o = none := by
  induction ps with
  | nil => rfl
  | cons p ps ih =>
    simp only [lookP, ih fun q hq => h q (List.mem_cons_of_mem _ hq)]
    rw [if_neg (h p (List.mem_cons_self ..))]
structure Keeps (x : Oper) (r : Dl) : Prop where
  kills : ∀ o ∈ r.kills, o ∈ x.wr
  puts : ∀ o, o ∉ x.wr → lookP r.puts o = none
theorem within_spec {x : Oper} {r : Dl} (h : within x r = true) : Keeps x r := by
  simp only [within, Bool.and_eq_true, List.all_eq_true, List.contains_iff_mem] at h
  exact ⟨h.2, fun o ho => lookP_none fun p hp e => ho (e ▸ h.1 p hp)⟩
theorem Keeps.hide {x : Oper} {r : Dl} (h : Keeps x r) (hid : List Nat) : Keeps x (hideD hid r) := ⟨h.kills, fun o ho => by simp only [hideD, lookP_map, h.puts o ho]; rfl⟩
theorem veil_apply {x y : Oper} (hi : Indep x y) {r : Dl} (hr : Keeps x r) (σ : St) : veil y (applyD x.dst r σ) = veil y σ := by
  have hk : ∀ o ∈ r.kills, o ∈ y.hid := fun o ho => hi.xy o (hr.kills o ho)
  refine St.ext' (fun t => ?_) (fun o => ?_)
  · simp only [veil, kill, only]
    by_cases e : y.sees.contains t = true
    · rw [if_pos e, if_pos e, applyD_env, if_neg, killV_absorb hk]
      intro hd
      exact hi.dx t hd (by simpa using e)
    · rw [if_neg e, if_neg e]
  · simp only [veil, kill, only]
    by_cases e : y.hid.contains o = true
    · rw [if_pos e, if_pos e]
    · rw [if_neg e, if_neg e, applyD_objs, hr.puts o fun h => e (by simpa using hi.xy o h)]
      simp only
      rw [if_neg fun h => e (by have := hk o (by simpa using h); simpa using this), Option.map_map]
      congr 1
      funext ob
      exact killO_absorb hk ob
theorem noPar_apply {x : Oper} {r : Dl} (hr : Keeps x r) {ids : List Nat} (hids : ∀ o ∈ ids, o ∉ x.wr) (σ : St) : noPar (applyD x.dst r σ) ids = noPar σ ids := by
  simp only [noPar]
  rw [Bool.eq_iff_iff, List.all_eq_true, List.all_eq_true]
  have key : ∀ o ∈ ids, (applyD x.dst r σ).objs o = (σ.objs o).map (killO r.kills) := by
    intro o ho
    have h1 := hids o ho
    have h2 : r.kills.contains o = false := contains_false.2 fun h => h1 (hr.kills o h)
    rw [applyD_objs, hr.puts o h1]
    simp only [h2, Bool.false_eq_true, if_false]
  constructor
  · intro h o ho
    have := h o ho
    rw [key o ho] at this
    revert this
    cases σ.objs o with
    | none => simp
    | some ob => cases ob <;> simp [killO]
  · intro h o ho
    have := h o ho
    rw [key o ho]
    revert this
    cases σ.objs o with
    | none => simp
    | some ob => cases ob <;> simp [killO]
structure Blind (x : Oper) (r : Dl) : Prop where
  v : ∀ ks : List Nat, (∀ o ∈ ks, o ∈ x.hid) → killV ks r.v = r.v
  p : ∀ ks : List Nat, (∀ o ∈ ks, o ∈ x.hid) → ∀ o ob, lookP r.puts o = some ob → killO ks ob = ob
theorem hideD_blind (x : Oper) (r : Dl) : Blind x (hideD x.hid r) := by
  refine ⟨fun ks h => killV_idem h _, fun ks h o ob hl => ?_⟩
  simp only [hideD, lookP_map] at hl
  rw [Option.map_eq_some_iff] at hl
  obtain ⟨ob', _, rfl⟩ := hl
  exact killO_idem h _
theorem apply_comm {x y : Oper} (hi : Indep x y) {rx ry : Dl} (hx : Keeps x rx) (hy : Keeps y ry) (bx : Blind x rx) (by' : Blind y ry) (σ : St) :
    applyD y.dst ry (applyD x.dst rx σ) = applyD x.dst rx (applyD y.dst ry σ) := by
  have kx : ∀ o ∈ rx.kills, o ∈ y.hid := fun o ho => hi.xy o (hx.kills o ho)
  have ky : ∀ o ∈ ry.kills, o ∈ x.hid := fun o ho => hi.yx o (hy.kills o ho)
  refine St.ext' (fun t => ?_) (fun o => ?_)
  · rw [applyD_env, applyD_env, applyD_env, applyD_env]
    by_cases e1 : x.dst = some t
    · rw [if_neg (hi.ne t e1), if_pos e1, if_pos e1]
      exact bx.v _ ky
    · by_cases e2 : y.dst = some t
      · rw [if_pos e2, if_neg e1, if_pos e2]
        exact (by'.v _ kx).symm
      · rw [if_neg e2, if_neg e1, if_neg e1, if_neg e2]
        exact killV_comm _ _ _
  · rw [applyD_objs, applyD_objs, applyD_objs, applyD_objs]
    have hcomm : ∀ q : Option Ob, (q.map (killO rx.kills)).map (killO ry.kills) = (q.map (killO ry.kills)).map (killO rx.kills) := by
      intro q
      cases q with
      | none => rfl
      | some ob => simp only [Option.map_some]; rw [killO_comm]
    by_cases e1 : o ∈ x.wr
    · have h2 : ry.kills.contains o = false := contains_false.2 fun h => hi.no o e1 (hy.kills o h)
      rw [hy.puts o (hi.no o e1), h2]
      cases hl : lookP rx.puts o with
      | some ob => simp only [Bool.false_eq_true, if_false, Option.map_some]; rw [bx.p _ ky o ob hl]
      | none =>
        cases rx.kills.contains o with
        | true => simp
        | false => simp only [Bool.false_eq_true, if_false]; exact hcomm _
    · have h2 : rx.kills.contains o = false := contains_false.2 fun h => e1 (hx.kills o h)
      rw [hx.puts o e1, h2]
      cases hl : lookP ry.puts o with
      | some ob => simp only [Bool.false_eq_true, if_false, Option.map_some]; rw [by'.p _ kx o ob hl]
      | none =>
        cases ry.kills.contains o with
        | true => simp
        | false => simp only [Bool.false_eq_true, if_false]; exact hcomm _
section
variable {Γ : Nat → Option Fn} {call : Calls} {dsts : Nat → Option Nat}
theorem stepH_spec {x : Oper} {σ σ' : St} (h : stepH Γ call dsts x σ = some σ') : ∃ r, deltaG Γ call dsts x (veil x σ) = some r ∧ within x r = true ∧ noPar σ r.kills = true ∧ σ' = applyD x.dst (hideD x.hid r) σ := by
  unfold stepH at h
  rw [obs] at h
  obtain ⟨r, hr, h⟩ := h
  split at h
  · rename_i hk
    simp only [Bool.and_eq_true] at hk
    cases h
    exact ⟨r, hr, hk.1, hk.2, rfl⟩
  · cases h
theorem stepH_mk {x : Oper} {σ : St} {r : Dl} (h1 : deltaG Γ call dsts x (veil x σ) = some r) (h2 : within x r = true) (h3 : noPar σ r.kills = true) : stepH Γ call dsts x σ = some (applyD x.dst (hideD x.hid r) σ) := by
  simp [stepH, h1, h2, h3]
theorem swap {x y : Oper} (hi : Indep x y) {σ σa σb : St} (h1 : stepH Γ call dsts x σ = some σa) (h2 : stepH Γ call dsts y σa = some σb) :
    ∃ σ1, stepH Γ call dsts y σ = some σ1 ∧ stepH Γ call dsts x σ1 = some σb := by
  obtain ⟨rx, a1, a2, a3, rfl⟩ := stepH_spec h1
  obtain ⟨ry, b1, b2, b3, rfl⟩ := stepH_spec h2
  have kx := within_spec a2
  have ky := within_spec b2
  rw [veil_apply hi (kx.hide _)] at b1
  have hnx : ∀ o ∈ ry.kills, o ∉ x.wr := fun o ho h => hi.no o h (ky.kills o ho)
  have hny : ∀ o ∈ rx.kills, o ∉ y.wr := fun o ho h => hi.no o (kx.kills o ho) h
  rw [noPar_apply (kx.hide _) hnx] at b3
  refine ⟨_, stepH_mk b1 b2 b3, ?_⟩
  rw [apply_comm hi (kx.hide _) (ky.hide _) (hideD_blind x rx) (hideD_blind y ry)]
  exact stepH_mk (by rw [veil_apply hi.symm (ky.hide _)]; exact a1) a2 (by rw [noPar_apply (ky.hide _) hny]; exact a3)
def zeroI : List S → Bool
  | [.int .i64 0] => true
  | _ => false
theorem zeroI_eq {zs : List S} (h : zeroI zs = true) : zs = [.int .i64 0] := by
  unfold zeroI at h
  split at h
  · rfl
  · cases h
def entryOps : Op → Op → Bool
  | .mget vn zv _ ok _ _, .ment vn' zv' _ _ _ => vn == 1 && vn' == 1 && zeroI zv && zeroI zv' && !ok
  | _, _ => false
def entryPair (x y : Oper) : Bool :=
  x.guard.isNone && y.guard.isNone && entryOps x.op y.op &&
  (match x.dst with | some d => !y.sees.contains d && !(y.dst == some d) | none => true) && (match y.dst with | some d => !x.sees.contains d | none => true)
theorem killAn0 (x : A) : deadA [] x = false := by cases x <;> rfl
theorem killVn0 (v : V) : killV [] v = v := by
  cases v with
  | a x => simp [killV, killAn0]
  | clo f p q => simp [killV, killAn0]
  | tup vs => simp [killV, killAn0]
  | undef => rfl
theorem killOn0 (ob : Ob) : killO [] ob = ob := by
  cases ob <;> simp [killO, killVn0, killAn0]
theorem mapKillO0 (x : Option Ob) : x.map (killO []) = x := by
  cases x <;> simp [killOn0]
theorem mfind_end {key k2 z : List S} : ∀ {es : List (List S × List S)}, mfind k2 es = none → (mfind key (es ++ [(k2, z)])).getD z = (mfind key es).getD z
  | [], _ => by
    simp only [List.nil_append, mfind]
    split <;> rfl
  | (k', v) :: r, h => by
    simp only [mfind] at h
    split at h
    · cases h
    · simp only [List.cons_append, mfind]
      split
      · rfl
      · exact mfind_end h
theorem mentry_get {key k2 z : List S} {es : List (List S × List S)} : (mfind key (mentry k2 z es)).getD z = (mfind key es).getD z := by
  unfold mentry
  cases h : mfind k2 es with
  | some v => simp
  | none => simp only [Option.isSome_none, Bool.false_eq_true, if_false]; exact mfind_end h
theorem delta_mget {dst : Option Nat} {τ : St} {zv : List S} {ks : List SK} {m k : Opd} {r : Dl} (h : delta Γ call dst τ (.mget 1 zv ks false m k) = some r) :
    ∃ es key c, mapOf τ.objs ks (ev τ.env m) = some es ∧ cellsA (ks.length != 1) (ev τ.env k) = some key ∧ hasKs ks key = true ∧ (mfind key es).getD zv = [c] ∧ r = { v := .a (.d (.s c)) } := by
  cases hq : quiet τ (.mget 1 zv ks false m k) with
  | none => simp [delta, hq, makes] at h
  | some v =>
    have hr : r = { v := v } := by
      simp [delta, hq] at h; exact h.symm
    simp only [quiet] at hq
    rw [obs] at hq
    obtain ⟨es, h1, hq⟩ := hq
    rw [obs] at hq
    obtain ⟨key, h2, hq⟩ := hq
    split at hq
    · rename_i hc
      rw [Bool.and_eq_true] at hc
      obtain ⟨h5, h6⟩ := hc
      have h6 := eq_of_beq h6
      cases hcv : (mfind key es).getD zv with
      | nil => rw [hcv] at h6; cases h6
      | cons c r' =>
        cases r' with
        | cons c2 r2 => rw [hcv] at h6; simp at h6
        | nil =>
          rw [hcv] at hq
          simp [ofCells, sv] at hq
          exact ⟨es, key, c, h1, h2, h5, hcv, by rw [hr, ← hq]⟩
    · cases hq
theorem delta_mget_mk {dst : Option Nat} {τ : St} {zv : List S} {ks : List SK} {m k : Opd} {es : List (List S × List S)} {key : List S} {c : S}
    (h1 : mapOf τ.objs ks (ev τ.env m) = some es) (h2 : cellsA (ks.length != 1) (ev τ.env k) = some key) (h3 : hasKs ks key = true) (h4 : (mfind key es).getD zv = [c]) :
    delta Γ call dst τ (.mget 1 zv ks false m k) = some { v := .a (.d (.s c)) } := by
  simp [delta, quiet, h1, h2, h3, h4, ofCells, sv]
theorem delta_ment {dst : Option Nat} {τ : St} {zv : List S} {ks : List SK} {m k : Opd} {r : Dl} (h : delta Γ call dst τ (.ment 1 zv ks m k) = some r) :
    ∃ o es key v, τ.objs o = some (.map ks es) ∧ r = { v := v, puts := [(o, .map ks (mentry key zv es))] } := by
  simp only [delta] at h
  split at h
  · rename_i o _
    split at h
    · rename_i ks' es hob
      rw [obs] at h
      obtain ⟨key, _, h⟩ := h
      split at h
      · rename_i hc
        obtain ⟨rfl, _, _⟩ := hc
        cases h
        exact ⟨o, es, key, _, hob, rfl⟩
      · cases h
    · cases h
  · cases h
theorem only_apply {ts : List Nat} {d : Option Nat} {r : Dl} {σ : St} (hk : r.kills = []) (hd : ∀ t, d = some t → t ∉ ts) : (only ts (applyD d r σ)).env = (only ts σ).env := by
  funext t
  simp only [only]
  split
  · rename_i ht
    rw [applyD_env, hk, killVn0, if_neg (fun e => hd t e (by simpa using ht))]
  · rfl
theorem veil_objs_map {o : Oper} {σ : St} {i : Nat} {ks : List SK} {es : List (List S × List S)} (h : (veil o σ).objs i = some (.map ks es)) : o.hid.contains i = false ∧ σ.objs i = some (.map ks es) := by
  simp only [veil, kill, only] at h
  split at h
  · cases h
  · rename_i hc
    rw [Option.map_eq_some_iff] at h
    obtain ⟨ob, h1, h2⟩ := h
    cases ob <;> simp only [killO] at h2 <;> first | (cases h2; done) | exact ⟨by simpa using hc, by rw [h1, h2]⟩
theorem veil_map {o : Oper} {σ : St} {i : Nat} {ks : List SK} {es : List (List S × List S)} (hc : o.hid.contains i = false) (h : σ.objs i = some (.map ks es)) : (veil o σ).objs i = some (.map ks es) := by
  simp only [veil, kill, only, hc, h]
  rfl
theorem veil_eq {o : Oper} {σ σ1 : St} (he : (only o.sees σ1).env = (only o.sees σ).env) (ho : ∀ i, σ1.objs i = σ.objs i) : veil o σ1 = veil o σ := by
  refine St.ext' (fun t => ?_) (fun i => ?_)
  · show killV o.hid ((only o.sees σ1).env t) = killV o.hid ((only o.sees σ).env t)
    rw [he]
  · show (if o.hid.contains i then none else (σ1.objs i).map (killO o.hid)) = (if o.hid.contains i then none else (σ.objs i).map (killO o.hid))
    rw [ho]
theorem swapE {x y : Oper} (hE : entryPair x y = true) {σ σa σb : St} (h1 : stepH Γ call dsts x σ = some σa) (h2 : stepH Γ call dsts y σa = some σb) :
    ∃ σ1, stepH Γ call dsts y σ = some σ1 ∧ stepH Γ call dsts x σ1 = some σb := by
  obtain ⟨xd, xo, xg, xh, xw, xs, xb⟩ := x
  obtain ⟨yd, yo, yg, yh, yw, ys, yb⟩ := y
  simp only [entryPair, Bool.and_eq_true] at hE
  obtain ⟨⟨⟨⟨hg1, hg2⟩, ho⟩, hd1⟩, hd2⟩ := hE
  obtain rfl : xg = none := by simpa using hg1
  obtain rfl : yg = none := by simpa using hg2
  have hxy : ∀ d, xd = some d → d ∉ ys ∧ yd ≠ some d := fun d e => by
    subst e
    simp only [Bool.and_eq_true] at hd1
    exact ⟨by simpa using hd1.1, by simpa using hd1.2⟩
  have hyx : ∀ d, yd = some d → d ∉ xs := fun d e => by
    subst e; simpa using hd2
  try simp only at ho
  unfold entryOps at ho
  split at ho
  · rename_i vn zv ks ok m k vn' zv' ks' m' k'
    simp only [Bool.and_eq_true] at ho
    obtain ⟨⟨⟨⟨e1, e2⟩, e3⟩, e4⟩, e5⟩ := ho
    obtain rfl : vn = 1 := eq_of_beq e1
    obtain rfl : vn' = 1 := eq_of_beq e2
    obtain rfl := zeroI_eq e3
    obtain rfl := zeroI_eq e4
    obtain rfl : ok = false := by simpa using e5
    generalize hX : (⟨xd, .mget 1 [.int .i64 0] ks false m k, none, xh, xw, xs, xb⟩ : Oper) = X at h1
    generalize hY : (⟨yd, .ment 1 [.int .i64 0] ks' m' k', none, yh, yw, ys, yb⟩ : Oper) = Y at h2
    have xX : X.sees = xs ∧ X.dst = xd ∧ X.hid = xh := by subst hX; exact ⟨rfl, rfl, rfl⟩
    have yY : Y.sees = ys ∧ Y.dst = yd ∧ Y.hid = yh := by subst hY; exact ⟨rfl, rfl, rfl⟩
    have dX : ∀ τ, deltaG Γ call dsts X τ = delta Γ call xd τ (.mget 1 [.int .i64 0] ks false m k) := fun τ => by subst hX; rfl
    have dY : ∀ τ, deltaG Γ call dsts Y τ = delta Γ call yd τ (.ment 1 [.int .i64 0] ks' m' k') := fun τ => by subst hY; rfl
    obtain ⟨rx, a1, a2, a3, rfl⟩ := stepH_spec h1
    obtain ⟨ry, b1, b2, b3, rfl⟩ := stepH_spec h2
    rw [dX] at a1
    obtain ⟨es0, key0, c, m1, m2, m3, m4, rfl⟩ := delta_mget a1
    have v1 : veil Y (applyD X.dst (hideD X.hid { v := .a (.d (.s c)) }) σ) = veil Y σ :=
      veil_eq (only_apply rfl fun t e => by rw [yY.1]; exact (hxy t (by rw [← xX.2.1]; exact e)).1) (fun i => by rw [applyD_objs]; exact mapKillO0 _)
    rw [v1] at b1
    have b1' := b1
    rw [dY] at b1'
    obtain ⟨o, es, key2, v2, n1, rfl⟩ := delta_ment b1'
    obtain ⟨n2, n3⟩ := veil_objs_map n1
    have oY : ∀ i, (applyD Y.dst (hideD Y.hid { v := v2, puts := [(o, .map ks' (mentry key2 [.int .i64 0] es))] }) σ).objs i = if i = o then some (.map ks' (mentry key2 [.int .i64 0] es)) else σ.objs i := fun i => by
      rw [applyD_objs]
      simp only [hideD, List.map_cons, List.map_nil, lookP, killO]
      by_cases e : o = i
      · subst e; simp
      · have e' : ¬ i = o := fun x => e x.symm
        simp [e, e', mapKillO0]
    have eX : (only X.sees (applyD Y.dst (hideD Y.hid { v := v2, puts := [(o, .map ks' (mentry key2 [.int .i64 0] es))] }) σ)).env = (only X.sees σ).env :=
      only_apply rfl fun t e => by rw [xX.1]; exact hyx t (by rw [← yY.2.1]; exact e)
    refine ⟨_, stepH_mk b1 b2 rfl, ?_⟩
    generalize hσ1 : applyD Y.dst (hideD Y.hid { v := v2, puts := [(o, .map ks' (mentry key2 [.int .i64 0] es))] }) σ = σ1 at oY eX ⊢
    have hve : (veil X σ1).env = (veil X σ).env := by
      funext t
      show killV X.hid ((only X.sees σ1).env t) = killV X.hid ((only X.sees σ).env t)
      rw [eX]
    have hm : ∃ es1, mapOf (veil X σ1).objs ks (ev (veil X σ1).env m) = some es1 ∧ ∀ key, (mfind key es1).getD [.int .i64 0] = (mfind key es0).getD [.int .i64 0] := by
      rw [hve]
      generalize ev (veil X σ).env m = V at m1
      unfold mapOf at m1 ⊢
      split at m1
      · rename_i o'
        split at m1
        · rename_i ks0 es0' hob
          split at m1
          · rename_i hk
            subst hk
            cases m1
            obtain ⟨q1, q2⟩ := veil_objs_map hob
            by_cases e : o' = o
            · subst e
              rw [n3] at q2; cases q2
              refine ⟨mentry key2 [.int .i64 0] es0, ?_, fun key => mentry_get⟩
              rw [veil_map (ks := ks) (es := mentry key2 [.int .i64 0] es0) q1 (by rw [oY, if_pos rfl])]
              simp
            · refine ⟨es0, ?_, fun _ => rfl⟩
              rw [veil_map (ks := ks) (es := es0) q1 (by rw [oY, if_neg e]; exact q2)]
              simp
          · cases m1
        · cases m1
      · exact ⟨es0, m1, fun _ => rfl⟩
      · exact ⟨es0, m1, fun _ => rfl⟩
      · cases m1
    obtain ⟨es1, w1, w2⟩ := hm
    have hdx : deltaG Γ call dsts X (veil X σ1) = some { v := .a (.d (.s c)) } := by
      rw [dX]
      exact delta_mget_mk w1 (by rw [hve]; exact m2) m3 (by rw [w2]; exact m4)
    rw [stepH_mk hdx a2 rfl]
    congr 1
    refine St.ext' (fun t => ?_) (fun i => ?_)
    · rw [applyD_env, applyD_env, ← hσ1, applyD_env, applyD_env]
      simp only [hideD, killVn0]
      by_cases e1 : X.dst = some t
      · have e2 : Y.dst ≠ some t := by rw [yY.2.1]; exact (hxy t (by rw [← xX.2.1]; exact e1)).2
        rw [if_pos e1, if_neg e2, if_pos e1]
      · rw [if_neg e1, if_neg e1]
    · rw [applyD_objs, applyD_objs, oY, applyD_objs]
      simp only [hideD, List.map_cons, List.map_nil, lookP, killO, mapKillO0]
      by_cases e : o = i
      · subst e; simp
      · have e' : ¬ i = o := fun x => e x.symm
        simp [e, e']
  · cases ho
def blindOp : Op → Bool
  | .mv _ | .bin _ _ _ => true
  | _ => false
def isStore : Op → Bool
  | .store _ _ _ => true
  | _ => false
def blindPair (x y : Oper) : Bool :=
  x.guard.isNone && y.guard.isNone && blindOp x.op && isStore y.op &&
  (match x.dst with | some d => !y.sees.contains d && !(y.dst == some d) | none => true) && (match y.dst with | some d => !x.sees.contains d | none => true)
theorem blind_delta {op : Op} (h : blindOp op = true) {d : Option Nat} {τ τ' : St} {r : Dl} (he : τ'.env = τ.env) (hd : delta Γ call d τ op = some r) : delta Γ call d τ' op = some r ∧ ∃ v, r = { v := v } := by
  cases op <;> simp only [blindOp] at h <;> try (cases h; done)
  all_goals
    simp only [delta, quiet, makes, he] at hd ⊢
    first
      | (cases hd; exact ⟨rfl, _, rfl⟩)
      | (split at hd
         · rename_i v hv
           cases hd
           simp [hv]
         · simp at hd)
theorem store_kills {n : Nat} {a v : Opd} {d : Option Nat} {τ : St} {r : Dl} (hd : delta Γ call d τ (.store n a v) = some r) : r.kills = [] := by
  simp only [delta] at hd
  split at hd
  · rw [obs] at hd
    obtain ⟨ob, _, hd⟩ := hd
    rw [Option.map_eq_some_iff] at hd
    obtain ⟨_, _, rfl⟩ := hd
    rfl
  · cases hd
theorem swapB {x y : Oper} (hE : blindPair x y = true) {σ σa σb : St} (h1 : stepH Γ call dsts x σ = some σa) (h2 : stepH Γ call dsts y σa = some σb) :
    ∃ σ1, stepH Γ call dsts y σ = some σ1 ∧ stepH Γ call dsts x σ1 = some σb := by
  simp only [blindPair, Bool.and_eq_true] at hE
  obtain ⟨⟨⟨⟨⟨hg1, hg2⟩, ho⟩, hs⟩, hd1⟩, hd2⟩ := hE
  have hxy : ∀ d, x.dst = some d → d ∉ y.sees ∧ y.dst ≠ some d := fun d e => by
    rw [e] at hd1
    simp only [Bool.and_eq_true] at hd1
    exact ⟨by simpa using hd1.1, by simpa using hd1.2⟩
  have hyx : ∀ d, y.dst = some d → d ∉ x.sees := fun d e => by
    rw [e] at hd2; simpa using hd2
  have gx : x.guard = none := by simpa using hg1
  have gy : y.guard = none := by simpa using hg2
  have dX : ∀ τ, deltaG Γ call dsts x τ = delta Γ call x.dst τ x.op := fun τ => by simp [deltaG, wanted, gx]
  have dY : ∀ τ, deltaG Γ call dsts y τ = delta Γ call y.dst τ y.op := fun τ => by simp [deltaG, wanted, gy]
  obtain ⟨rx, a1, a2, a3, rfl⟩ := stepH_spec h1
  obtain ⟨ry, b1, b2, b3, rfl⟩ := stepH_spec h2
  rw [dX] at a1
  obtain ⟨_, vx, rfl⟩ := blind_delta ho rfl a1
  have v1 : veil y (applyD x.dst (hideD x.hid { v := vx }) σ) = veil y σ :=
    veil_eq (only_apply rfl fun t e => (hxy t e).1) (fun i => by rw [applyD_objs]; exact mapKillO0 _)
  rw [v1] at b1
  have hk : ry.kills = [] := by
    have b1' := b1
    rw [dY] at b1'
    cases hop : y.op <;> rw [hop] at hs b1' <;> simp only [isStore] at hs <;> try (cases hs; done)
    exact store_kills b1'
  have eX : (only x.sees (applyD y.dst (hideD y.hid ry) σ)).env = (only x.sees σ).env := only_apply hk fun t e => hyx t e
  refine ⟨_, stepH_mk b1 b2 (by rw [hk]; rfl), ?_⟩
  have hve : (veil x (applyD y.dst (hideD y.hid ry) σ)).env = (veil x σ).env := by
    funext t
    show killV x.hid ((only x.sees (applyD y.dst (hideD y.hid ry) σ)).env t) = killV x.hid ((only x.sees σ).env t)
    rw [eX]
  have hdx : deltaG Γ call dsts x (veil x (applyD y.dst (hideD y.hid ry) σ)) = some { v := vx } := by
    rw [dX]; exact (blind_delta ho hve a1).1
  rw [stepH_mk hdx a2 rfl]
  congr 1
  refine St.ext' (fun t => ?_) (fun i => ?_)
  · rw [applyD_env, applyD_env, applyD_env, applyD_env]
    simp only [hideD, hk, killVn0]
    by_cases e1 : x.dst = some t
    · rw [if_pos e1, if_neg (hxy t e1).2, if_pos e1]
    · rw [if_neg e1, if_neg e1]
  · rw [applyD_objs, applyD_objs, applyD_objs, applyD_objs]
    simp only [hideD, hk, List.map_nil, lookP, mapKillO0, List.contains_nil, Bool.false_eq_true, if_false]
theorem pull {y : Oper} {σ' : St} : ∀ {R1 R2 : List Oper} {σ : St}, (∀ x ∈ R1, Indep x y ∨ entryPair x y = true ∨ blindPair x y = true) → run (stepH Γ call dsts) (R1 ++ y :: R2) σ = some σ' →
    ∃ σ1, stepH Γ call dsts y σ = some σ1 ∧ run (stepH Γ call dsts) (R1 ++ R2) σ1 = some σ'
  | [], R2, σ, _, h => by
    simp only [List.nil_append, run] at h
    rw [obs] at h
    exact h
  | x :: R1, R2, σ, hi, h => by
    simp only [List.cons_append, run] at h
    rw [obs] at h
    obtain ⟨σa, h1, h2⟩ := h
    obtain ⟨σb, h3, h4⟩ := pull (fun z hz => hi z (List.mem_cons_of_mem _ hz)) h2
    obtain ⟨σ1, h5, h6⟩ := (hi x (List.mem_cons_self ..)).elim (fun hh => swap hh h1 h3) (fun hh => hh.elim (fun hh => swapE hh h1 h3) (fun hh => swapB hh h1 h3))
    refine ⟨σ1, h5, ?_⟩
    simp only [List.cons_append, run, h6]
    exact h4
end
end Go.DM
