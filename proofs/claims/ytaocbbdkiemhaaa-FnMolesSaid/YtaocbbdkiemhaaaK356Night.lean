/- A mole's night: the program's side. -/
import Derived.Test.YtaocbbdkiemhaaaK356More
set_option linter.unusedSimpArgs false
set_option linter.unusedVariables false
namespace Go.DM
set_option linter.unusedSectionVars false
variable [Tok]
open Go.IntWalk
variable {w h : Int} {g : Nat → Int} {cs : List S} {q : Nat → Int} {qs : List S}

theorem encC_takeA (l r : List Cel) : ((encC (l ++ r)).drop 0).take (l.length * 2) = encC l := by
  rw [List.drop_zero, encC_tk, List.take_left']; rfl

section
variable {Γ : Nat → Option Fn} {dsts : Nat → Option Nat} {ops : List Oper} {Q : St → Prop} {σ : St} {d : Option Nat} {gd : Option (Nat × Bool)} {l1 l2 l3 l4 : List Nat}
/-- A call of slices.DeleteFunc. -/
theorem WR.de {e p f : Nat} {fn : Fn} {z : D} {a b : Opd} {v : V} (P : Cel → Prop) [DecidablePred P] (l r : List Cel) (hl : l.length ≤ 1000) (hf : G f = some fn) (hm : fn.muts = []) (hP : ∀ c ∈ l, Gives G f [ac c.1 c.2, .d z] (rb (decide (P c))))
    (hw : wanted dsts σ.env gd = some true) (ha : ev σ.env a = .a (.sl p 0 l.length 2)) (ho : σ.objs p = some (.flat false (encC (l ++ r)))) (hb : ev σ.env b = v) (hz : toDV (fun o => if [p].contains o then none else σ.objs o) depth v = some (.clo f [] [z])) (hv : mutIds [] [v] = [])
    (k : WR G dsts ops Q (set (some e) (.a (.sl p 0 (kept P l).length 2)) (put p (.flat false (encC (kept P l ++ (List.replicate (l.length - (kept P l).length) (0, 0) ++ r)))) σ))) : WR G dsts (⟨some e, .call 63 [a, b], gd, l1, l2, l3, l4⟩ :: ops) Q σ := by
  have hkl : (kept P l).length ≤ l.length := List.length_filter_le ..
  have hlen : (encC (kept P l ++ List.replicate (l.length - (kept P l).length) (0, 0))).length = l.length * 2 := by
    rw [encC_length, List.length_append, List.length_replicate]; omega
  have hL : (encC (l ++ r)).length = (l.length + r.length) * 2 := by rw [encC_length, List.length_append]
  refine WR.call (d := e) (f := 63) (fn := Code.f63) (vs := [.a (.sl p 0 l.length 2), v]) (as := [.ms l.length 2 (encC l), .d (.clo f [] [z])]) (ps := [(p, .flat false (encC (kept P l ++ (List.replicate (l.length - (kept P l).length) (0, 0) ++ r))))]) (ns := []) (v := .a (.sl p 0 (kept P l).length 2))
    hw rfl (by simp only [callee, List.map_cons, List.map_nil, ha, hb]) rfl ?_ ?_ (deleteFunc_gives P l hl hf hm hP) ?_ ?_ rfl rfl ?_
  · show nodup (p :: mutIds [] [v]) = true
    rw [hv]; rfl
  · show args σ (p :: mutIds [] [v]) [true] [.a (.sl p 0 l.length 2), v] = _
    rw [hv]
    simp only [args, if_true, writable, ho]
    rw [if_pos (by rw [hL]; omega), encC_takeA, hz]
    rfl
  · show backs σ [true] [.a (.sl p 0 l.length 2), v] [_] = _
    simp only [backs, ho]
    rw [if_pos ⟨hlen, by rw [hL]; omega⟩]
    have e1 : (encC (l ++ r)).drop (0 + l.length * 2) = encC r := by
      rw [Nat.zero_add, encC_dr, List.drop_left']; rfl
    simp only [List.take_zero, List.nil_append, e1]
    rw [← encC_append, List.append_assoc]
    cases v <;> rfl
  · simp [retsV, retV]
  · simp only [List.append_nil, List.map_nil, insertAll, kill_nil]
    exact k
end
def lv (q : Nat → Int) (c : Cel) : Int := q (10 * c.2.toNat + c.1.toNat)
/-- The lowest of some cells, the first one of several. -/
def lowest (q : Nat → Int) (at' : Cel) : List Cel → Cel
  | [] => at'
  | c :: r => r.foldl (fun t c => if lv q c < lv q t then c else t) c
/-- Where a mole goes. -/
def goes (w h : Int) (g q : Nat → Int) (a b : Cel) : Cel :=
  let near := kept (fun c => ¬ Is w h g 0 c.1 c.2) (Near a.1 a.2)
  lowest q a (if 1 < near.length then kept (fun c => c.1 = b.1 ∧ c.2 = b.2) near else near)

theorem kept_mem {P : Cel → Prop} [DecidablePred P] {l : List Cel} {c : Cel} (h : c ∈ kept P l) : c ∈ l ∧ ¬ P c := by
  unfold kept at h
  rw [List.mem_filter] at h
  exact ⟨h.1, by simpa using h.2⟩
theorem near_in (hs : w ≤ 10 ∧ h ≤ 10) {a b : Cel} {c : Cel} (hc : c ∈ (if 1 < (kept (fun c => ¬ Is w h g 0 c.1 c.2) (Near a.1 a.2)).length then kept (fun c => c.1 = b.1 ∧ c.2 = b.2) (kept (fun c => ¬ Is w h g 0 c.1 c.2) (Near a.1 a.2)) else kept (fun c => ¬ Is w h g 0 c.1 c.2) (Near a.1 a.2))) :
    0 ≤ c.1 ∧ c.1 < 10 ∧ 0 ≤ c.2 ∧ c.2 < 10 := by
  have : c ∈ kept (fun c => ¬ Is w h g 0 c.1 c.2) (Near a.1 a.2) := by
    split at hc
    · exact (kept_mem hc).1
    · exact hc
  have h2 := Decidable.not_not.1 (kept_mem this).2
  simp only [Is] at h2
  omega

section
variable {Γ : Nat → Option Fn} {dsts : Nat → Option Nat} {ops : List Oper} {Q : St → Prop} {σ : St} {gd : Option (Nat × Bool)} {l1 l2 l3 l4 : List Nat}
/-- A call that answers several cells. -/
theorem WR.ca {f e : Nat} {xs : List Opd} {fn : Fn} {as : List Arg} {b : List S} (hw : wanted dsts σ.env gd = some true) (hΓ : Γ f = some fn)
    (hn : mutIds fn.muts (xs.map (ev σ.env)) = []) (ha : args σ [] fn.muts (xs.map (ev σ.env)) = some as) (hg : Gives Γ f as ⟨[.agg b], []⟩) (hb : backs σ fn.muts (xs.map (ev σ.env)) [] = some [])
    (k : WR Γ dsts ops Q (set (some e) (.a (.d (.agg b))) σ)) : WR Γ dsts (⟨some e, .call f xs, gd, l1, l2, l3, l4⟩ :: ops) Q σ := by
  refine WR.call (d := e) (v := .a (.d (.agg b))) (ps := []) (ns := []) hw rfl rfl hΓ (by rw [hn]; rfl) (by rw [hn]; exact ha) hg hb rfl rfl rfl ?_
  simp only [List.append_nil, List.map_nil, insertAll, kill_nil]
  exact k
end
theorem finish_c2 {fn : Fn} {σ : St} {as : List Arg} {t n p t' n' p' : Nat} {b b' : Bool} {cs cs' : List S} (hr : fn.res = [.cell t n true, .cell t' n' true]) (he : σ.env t = .a (.ptr p 0)) (ho : σ.objs p = some (.flat b cs)) (hl : cs.length = n)
    (he' : σ.env t' = .a (.ptr p' 0)) (ho' : σ.objs p' = some (.flat b' cs')) (hl' : cs'.length = n') (hm : outsOf σ 0 as = some []) : finish fn as σ = some ⟨[.agg cs, .agg cs'], []⟩ := by
  simp only [finish, hr, all?, resV, he, he', load, ho, ho', loadC_all hl, loadC_all hl', Option.bind_some, Option.map_some, retOf]
  simp [nodup, hm]
theorem lowest_step (q : Nat → Int) (a : Cel) {M : List Cel} {i : Nat} {c : Cel} (h : M[i]? = some c) : lowest q a (M.take (i + 1)) = if i = 0 ∨ lv q c < lv q (lowest q a (M.take i)) then c else lowest q a (M.take i) := by
  rw [List.take_add_one, h]
  cases M with
  | nil => simp at h
  | cons d r =>
    cases i with
    | zero => simp at h; simp [lowest, h]
    | succ i =>
      simp only [List.take_succ_cons, Option.toList_some, List.cons_append, lowest, List.foldl_append, List.foldl_cons, List.foldl_nil]
      simp

def nightLev (q : Nat → Int) (qs : List S) (t : Cel) : List S := if lv q t < 9 then qs.set (10 * t.2.toNat + t.1.toNat) (.int .i8 (lv q t + 1)) else qs
abbrev moleS (a b : Cel) : List S := [.int .i8 a.1, .int .i8 a.2, .int .i8 b.1, .int .i8 b.2]

theorem night_gives (l : IsLawn w h g cs) (v : IsLev q qs) (hs : w ≤ 10 ∧ h ≤ 10) (a b : Cel) (ha : 0 ≤ a.1 ∧ a.1 < 10 ∧ 0 ≤ a.2 ∧ a.2 < 10) :
    Gives G 57 [aa cs, aa qs, aa (moleS a b)] ⟨[.agg (nightLev q qs (goes w h g q a b)), .agg (moleS (goes w h g q a b) a)], []⟩ := by
  refine Gives.by rfl rfl (W.seq ?_)
  repeat' first | ((with_reducible apply WR.cl); exact rfl; exact rfl; exact rfl; exact rfl; exact beside_gives _ _ (by omega); exact rfl; exact rfl) | ((with_reducible apply WR.lx); exact rfl; exact rfl) | ((with_reducible apply WR.al); exact rfl; (first | exact rfl)) | ((with_reducible apply WR.bx); exact rfl; exact rfl; exact IsLawn.len (by assumption); (first | exact rfl)) | ((with_reducible apply WR.bx); exact rfl; exact rfl; exact IsLev.len (by assumption); (first | exact rfl)) | ((with_reducible apply WR.bo); exact rfl; exact rfl; (first | exact rfl)) | ((with_reducible apply WR.nil)) | (with_reducible refine andThen_n ?_) | (with_reducible refine W.seq ?_) | (with_reducible refine W.region ?_) | ((with_reducible apply WR.mf); exact rfl; exact rfl) | ((with_reducible apply WR.fa); exact rfl; exact rfl)
  refine WR.de (fun c => ¬ Is w h g 0 c.1 c.2) (Near a.1 a.2) [] (by simp [Near]) rfl rfl (fun c _ => nightGrassNot_gives l _ _ hs) rfl rfl rfl rfl rfl rfl ?_
  have hin := fun (c : Cel) => near_in (g := g) hs (a := a) (b := b) (c := c)
  have hgo : goes w h g q a b = lowest q a (if 1 < (kept (fun c => ¬ Is w h g 0 c.1 c.2) (Near a.1 a.2)).length then kept (fun c => c.1 = b.1 ∧ c.2 = b.2) (kept (fun c => ¬ Is w h g 0 c.1 c.2) (Near a.1 a.2)) else kept (fun c => ¬ Is w h g 0 c.1 c.2) (Near a.1 a.2)) := rfl
  have hNl : (kept (fun c => ¬ Is w h g 0 c.1 c.2) (Near a.1 a.2)).length ≤ 4 := List.length_filter_le ..
  generalize hT : goes w h g q a b = T at hgo ⊢
  generalize kept (fun c => ¬ Is w h g 0 c.1 c.2) (Near a.1 a.2) = N at hin hgo hNl ⊢
  repeat' first | ((with_reducible apply WR.mv); exact rfl; exact rfl) | ((with_reducible apply WR.lx); exact rfl; exact rfl) | ((with_reducible apply WR.al); exact rfl; (first | exact rfl)) | ((with_reducible apply WR.st); exact rfl; exact rfl; exact rfl; exact rfl) | ((with_reducible apply WR.nil)) | (with_reducible refine andThen_n ?_) | (with_reducible refine W.seq ?_) | (with_reducible refine W.region ?_) | (with_reducible refine W.skip ?_) | (with_reducible refine W.block ?_) | ((with_reducible apply W.condT); exact rfl) | ((with_reducible apply W.condF); exact rfl) | (intro hb; try (exfalso; omega)) | ((with_reducible apply WR.mf); exact rfl; exact rfl) | ((with_reducible apply WR.fa); exact rfl; exact rfl) | ((with_reducible apply WR.le); exact rfl; exact rfl) | ((with_reducible apply WR.gtr); exact rfl; exact rfl; exact rfl)
  · have h1 : 1 < N.length := by omega
    refine WR.de (fun c => c.1 = b.1 ∧ c.2 = b.2) N _ (by omega) rfl rfl (fun c _ => nightBefore_gives _ _ a.1 a.2 b.1 b.2) rfl rfl rfl rfl rfl rfl ?_
    simp only [if_pos h1] at hin hgo
    have hKl : (kept (fun c => c.1 = b.1 ∧ c.2 = b.2) N).length ≤ 4 := Nat.le_trans (List.length_filter_le ..) hNl
    generalize kept (fun c => c.1 = b.1 ∧ c.2 = b.2) N = K at hin hgo hKl ⊢
    repeat' first | ((with_reducible apply WR.mv); exact rfl; exact rfl) | ((with_reducible apply WR.lx); exact rfl; exact rfl) | ((with_reducible apply WR.al); exact rfl; (first | exact rfl)) | ((with_reducible apply WR.st); exact rfl; exact rfl; exact rfl; exact rfl) | ((with_reducible apply WR.nil)) | (with_reducible refine andThen_n ?_) | (with_reducible refine W.seq ?_) | (with_reducible refine W.region ?_) | (with_reducible refine W.block ?_) | ((with_reducible apply WR.fa); exact rfl; exact rfl) | ((with_reducible apply WR.le); exact rfl; exact rfl)
    refine W.loopI (fun n σ => ∃ (i : Nat) (M R : List Cel) (t : Cel), n = M.length - i ∧ i ≤ M.length ∧ M.length ≤ 4 ∧ (∀ c ∈ M, 0 ≤ c.1 ∧ c.1 < 10 ∧ 0 ≤ c.2 ∧ c.2 < 10) ∧ T = lowest q a M ∧ t = lowest q a (M.take i) ∧ (0 ≤ t.1 ∧ t.1 < 10 ∧ 0 ≤ t.2 ∧ t.2 < 10) ∧
      σ.env 27 = .a (.d (.s (.int .i64 i))) ∧ σ.env 26 = .a (.d (.s (.int .i64 M.length))) ∧ σ.env 25 = .a (.sl 14 0 M.length 2) ∧ σ.env 9 = .a (.ptr 9 0) ∧ σ.env 4 = .a (.ptr 4 0) ∧ σ.env 5 = .a (.ptr 5 0) ∧ σ.env 6 = .a (.ptr 6 0) ∧ σ.env 7 = .a (.ptr 7 0) ∧
      σ.objs 14 = some (.flat false (encC (M ++ R))) ∧ σ.objs 9 = some (.flat false [.int .i8 t.1, .int .i8 t.2]) ∧ σ.objs 4 = some (.flat false qs) ∧ σ.objs 5 = some (.flat false (moleS a b)) ∧ σ.objs 6 = some (.flat false (List.replicate 100 (.int .i8 0))) ∧
      σ.objs 7 = some (.flat false [.int .i8 0, .int .i8 0, .int .i8 0, .int .i8 0]) ∧ noPar σ [11] = true)
      ?_ _ _ ⟨0, K, _, a, rfl, by omega, hKl, hin, hgo, rfl, ha, rfl, rfl, rfl, rfl, rfl, rfl, rfl, rfl, rfl, rfl, rfl, rfl, rfl, rfl, rfl⟩
    clear hin hgo hKl
    rintro n σ ⟨i, M, R, t, rfl, hi, hM, hMin, hTM, ht, htin, e27, e26, e25, e9, e4, e5, e6, e7, o14, o9, o4, o5, o6, o7, n11⟩
    rw [← set_self e27, ← set_self e26, ← set_self e25, ← set_self e9, ← set_self e4, ← set_self e5, ← set_self e6, ← set_self e7, ← put_self o14, ← put_self o9, ← put_self o4, ← put_self o5, ← put_self o6, ← put_self o7]
    repeat' first | ((with_reducible apply WR.mv); exact rfl; exact rfl) | ((with_reducible apply WR.ld); exact rfl; exact rfl; exact rfl; (first | exact loadC_all (IsLev.len (by assumption)))) | ((with_reducible apply WR.lx); exact rfl; exact rfl) | ((with_reducible apply WR.nil)) | (with_reducible refine andThen_n ?_) | (with_reducible refine andThen_x ?_) | (with_reducible refine inB_x ?_) | (with_reducible refine W.seq ?_) | (with_reducible refine W.region ?_) | (with_reducible refine W.skip ?_) | (with_reducible refine W.exit ?_) | (with_reducible refine W.block ?_) | ((with_reducible apply W.condT); exact rfl) | ((with_reducible apply W.condF); exact rfl) | (intro hb; try (exfalso; omega)) | ((with_reducible apply WR.lss); exact rfl; exact rfl; exact rfl)
    · obtain ⟨c, hc⟩ : ∃ c, M[i]? = some c := ⟨M[i]'(by omega), by simp⟩
      have hcin := hMin c (List.mem_of_getElem? hc)
      (with_reducible apply WR.is); exact rfl; exact rfl; exact rfl; exact ⟨by omega, by omega⟩
      (with_reducible apply WR.ld); exact rfl; exact rfl; exact rfl; exact encC_load' (M ++ R) i (by omega) c (by rw [Int.toNat_natCast, List.getElem?_append_left (by omega)]; exact hc)
      repeat' first | ((with_reducible apply WH.cs); exact rfl; exact rfl; exact rfl; exact rfl; exact of_gives v _ _ (by omega); exact rfl) | ((with_reducible apply WR.mv); exact rfl; exact rfl) | ((with_reducible apply WR.lx); exact rfl; exact rfl) | ((with_reducible apply WH.ld); exact rfl; exact rfl; exact rfl; (first | exact loadC_all (IsLev.len (by assumption))); exact rfl) | ((with_reducible apply WH.lx); exact rfl; exact rfl; exact rfl) | ((with_reducible apply WR.al); exact rfl; (first | assumption)) | ((with_reducible apply WR.st); exact rfl; exact rfl; exact rfl; exact rfl) | ((with_reducible apply WH.off); exact rfl) | ((with_reducible apply WR.nil)) | (with_reducible refine andThen_n ?_) | (with_reducible refine inB_n ?_) | (with_reducible refine W.seq ?_) | (with_reducible refine W.region ?_) | (with_reducible refine W.skip ?_) | ((with_reducible apply W.condT); exact rfl) | ((with_reducible apply W.condF); exact rfl) | ((with_reducible apply WH.nil)) | (with_reducible refine W.draw ?_) | (intro hb; try (exfalso; omega)) | ((with_reducible apply WH.mv); exact rfl; exact rfl; exact rfl) | ((with_reducible apply WR.ad); exact rfl; exact rfl; exact rfl; (first | exact i64_in _ (by omega) | assumption)) | ((with_reducible apply WH.lss); exact rfl; exact rfl; exact rfl) | ((with_reducible apply WH.eql); exact rfl; exact rfl; exact rfl) | ((with_reducible apply WH.pk); exact rfl; exact rfl; exact rfl)
      all_goals first
        | exact ⟨_, by omega, i + 1, M, R, c, rfl, by omega, hM, hMin, hTM, by rw [lowest_step q a hc, if_pos (by rw [← ht]; first | exact .inl (by omega) | exact .inr (by assumption))], hcin, rfl, rfl, rfl, rfl, rfl, rfl, rfl, rfl, rfl, rfl, rfl, rfl, rfl, rfl, rfl⟩
        | exact ⟨_, by omega, i + 1, M, R, t, rfl, by omega, hM, hMin, hTM, by rw [lowest_step q a hc, if_neg (by rw [← ht]; intro hh; rcases hh with hh | hh <;> first | omega | exact absurd hh (by assumption)), ← ht], htin, rfl, rfl, rfl, rfl, rfl, rfl, rfl, rfl, rfl, rfl, rfl, rfl, rfl, rfl, rfl⟩
    · have hiM : i = M.length := by omega
      subst hiM
      rw [List.take_length] at ht
      have htT : t = T := by rw [ht, hTM]
      subst htT
      repeat' first | ((with_reducible apply WR.cs); exact rfl; exact rfl; exact rfl; exact rfl; exact of_gives v _ _ (by omega); exact rfl) | ((with_reducible apply WR.ld); exact rfl; exact rfl; exact rfl; (first | exact loadC_all (IsLev.len (by assumption)))) | ((with_reducible apply WR.lx); exact rfl; exact rfl) | ((with_reducible apply WH.ld); exact rfl; exact rfl; exact rfl; (first | exact loadC_all (IsLev.len (by assumption))); exact rfl) | ((with_reducible apply WH.lx); exact rfl; exact rfl; exact rfl) | ((with_reducible apply WR.nil)) | (with_reducible refine andThen_n ?_) | (with_reducible refine W.seq ?_) | (with_reducible refine W.region ?_) | (with_reducible refine W.skip ?_) | ((with_reducible apply W.condT); exact rfl) | ((with_reducible apply W.condF); exact rfl) | (with_reducible refine W.draw ?_) | (intro hb; try (exfalso; omega)) | ((with_reducible apply WR.lss); exact rfl; exact rfl; exact rfl) | ((with_reducible apply WH.fa); exact rfl; exact rfl; exact rfl) | ((with_reducible apply WH.bu); exact rfl; exact rfl)
      · have hq := v.cb (10 * t.2.toNat + t.1.toNat) (by omega)
        (with_reducible apply WR.ca); exact rfl; exact rfl; exact rfl; exact rfl; exact more_gives v _ _ 1 (by omega) (by omega) (by omega); exact rfl
        have v' := v.set (show 10 * t.2.toNat + t.1.toNat < 100 by omega) (n := q (10 * t.2.toNat + t.1.toNat) + 1) (by omega)
        (with_reducible apply WR.st); exact rfl; exact rfl; exact rfl; exact storeAll v'.len v.len
        repeat' first | ((with_reducible apply WH.ld); exact rfl; exact rfl; exact rfl; (first | exact loadC_all (IsLev.len (by assumption))); exact rfl) | ((with_reducible apply WH.lx); exact rfl; exact rfl; exact rfl) | ((with_reducible apply WR.nil)) | (with_reducible refine andThen_n ?_) | (with_reducible refine W.seq ?_) | (with_reducible refine W.draw ?_) | ((with_reducible apply WH.fa); exact rfl; exact rfl; exact rfl) | ((with_reducible apply WH.bu); exact rfl; exact rfl)
        (with_reducible apply WH.st); exact rfl; exact rfl; exact rfl; exact storeAll v'.len rfl; exact rfl; exact rfl
        repeat' first | (with_reducible refine andThen_n ?_) | (with_reducible refine W.ret ?_) | ((with_reducible apply WH.nil)) | ((with_reducible apply WH.st); exact rfl; exact rfl; exact rfl; exact rfl; exact rfl; exact rfl)
        refine Done.r (finish_c2 rfl rfl rfl v'.len rfl rfl rfl rfl) ?_
        rw [nightLev, if_pos (by assumption)]; rfl
      · (with_reducible apply WH.st); exact rfl; exact rfl; exact rfl; exact storeAll v.len rfl; exact rfl; exact rfl
        repeat' first | (with_reducible refine andThen_n ?_) | (with_reducible refine W.ret ?_) | ((with_reducible apply WH.nil)) | ((with_reducible apply WH.st); exact rfl; exact rfl; exact rfl; exact rfl; exact rfl; exact rfl)
        refine Done.r (finish_c2 rfl rfl rfl v.len rfl rfl rfl rfl) ?_
        rw [nightLev, if_neg (by assumption)]; rfl
  · have h1 : ¬ 1 < N.length := by omega
    simp only [if_neg h1] at hin hgo
    have hKl := hNl
    generalize N = K at hin hgo hKl ⊢
    refine W.loopI (fun n σ => ∃ (i : Nat) (M R : List Cel) (t : Cel), n = M.length - i ∧ i ≤ M.length ∧ M.length ≤ 4 ∧ (∀ c ∈ M, 0 ≤ c.1 ∧ c.1 < 10 ∧ 0 ≤ c.2 ∧ c.2 < 10) ∧ T = lowest q a M ∧ t = lowest q a (M.take i) ∧ (0 ≤ t.1 ∧ t.1 < 10 ∧ 0 ≤ t.2 ∧ t.2 < 10) ∧
      σ.env 27 = .a (.d (.s (.int .i64 i))) ∧ σ.env 26 = .a (.d (.s (.int .i64 M.length))) ∧ σ.env 25 = .a (.sl 14 0 M.length 2) ∧ σ.env 9 = .a (.ptr 9 0) ∧ σ.env 4 = .a (.ptr 4 0) ∧ σ.env 5 = .a (.ptr 5 0) ∧ σ.env 6 = .a (.ptr 6 0) ∧ σ.env 7 = .a (.ptr 7 0) ∧
      σ.objs 14 = some (.flat false (encC (M ++ R))) ∧ σ.objs 9 = some (.flat false [.int .i8 t.1, .int .i8 t.2]) ∧ σ.objs 4 = some (.flat false qs) ∧ σ.objs 5 = some (.flat false (moleS a b)) ∧ σ.objs 6 = some (.flat false (List.replicate 100 (.int .i8 0))) ∧
      σ.objs 7 = some (.flat false [.int .i8 0, .int .i8 0, .int .i8 0, .int .i8 0]) ∧ noPar σ [11] = true)
      ?_ _ _ ⟨0, K, _, a, rfl, by omega, hKl, hin, hgo, rfl, ha, rfl, rfl, rfl, rfl, rfl, rfl, rfl, rfl, rfl, rfl, rfl, rfl, rfl, rfl, rfl⟩
    clear hin hgo hKl
    rintro n σ ⟨i, M, R, t, rfl, hi, hM, hMin, hTM, ht, htin, e27, e26, e25, e9, e4, e5, e6, e7, o14, o9, o4, o5, o6, o7, n11⟩
    rw [← set_self e27, ← set_self e26, ← set_self e25, ← set_self e9, ← set_self e4, ← set_self e5, ← set_self e6, ← set_self e7, ← put_self o14, ← put_self o9, ← put_self o4, ← put_self o5, ← put_self o6, ← put_self o7]
    repeat' first | ((with_reducible apply WR.mv); exact rfl; exact rfl) | ((with_reducible apply WR.ld); exact rfl; exact rfl; exact rfl; (first | exact loadC_all (IsLev.len (by assumption)))) | ((with_reducible apply WR.lx); exact rfl; exact rfl) | ((with_reducible apply WR.nil)) | (with_reducible refine andThen_n ?_) | (with_reducible refine andThen_x ?_) | (with_reducible refine inB_x ?_) | (with_reducible refine W.seq ?_) | (with_reducible refine W.region ?_) | (with_reducible refine W.skip ?_) | (with_reducible refine W.exit ?_) | (with_reducible refine W.block ?_) | ((with_reducible apply W.condT); exact rfl) | ((with_reducible apply W.condF); exact rfl) | (intro hb; try (exfalso; omega)) | ((with_reducible apply WR.lss); exact rfl; exact rfl; exact rfl)
    · obtain ⟨c, hc⟩ : ∃ c, M[i]? = some c := ⟨M[i]'(by omega), by simp⟩
      have hcin := hMin c (List.mem_of_getElem? hc)
      (with_reducible apply WR.is); exact rfl; exact rfl; exact rfl; exact ⟨by omega, by omega⟩
      (with_reducible apply WR.ld); exact rfl; exact rfl; exact rfl; exact encC_load' (M ++ R) i (by omega) c (by rw [Int.toNat_natCast, List.getElem?_append_left (by omega)]; exact hc)
      repeat' first | ((with_reducible apply WH.cs); exact rfl; exact rfl; exact rfl; exact rfl; exact of_gives v _ _ (by omega); exact rfl) | ((with_reducible apply WR.mv); exact rfl; exact rfl) | ((with_reducible apply WR.lx); exact rfl; exact rfl) | ((with_reducible apply WH.ld); exact rfl; exact rfl; exact rfl; (first | exact loadC_all (IsLev.len (by assumption))); exact rfl) | ((with_reducible apply WH.lx); exact rfl; exact rfl; exact rfl) | ((with_reducible apply WR.al); exact rfl; (first | assumption)) | ((with_reducible apply WR.st); exact rfl; exact rfl; exact rfl; exact rfl) | ((with_reducible apply WH.off); exact rfl) | ((with_reducible apply WR.nil)) | (with_reducible refine andThen_n ?_) | (with_reducible refine inB_n ?_) | (with_reducible refine W.seq ?_) | (with_reducible refine W.region ?_) | (with_reducible refine W.skip ?_) | ((with_reducible apply W.condT); exact rfl) | ((with_reducible apply W.condF); exact rfl) | ((with_reducible apply WH.nil)) | (with_reducible refine W.draw ?_) | (intro hb; try (exfalso; omega)) | ((with_reducible apply WH.mv); exact rfl; exact rfl; exact rfl) | ((with_reducible apply WR.ad); exact rfl; exact rfl; exact rfl; (first | exact i64_in _ (by omega) | assumption)) | ((with_reducible apply WH.lss); exact rfl; exact rfl; exact rfl) | ((with_reducible apply WH.eql); exact rfl; exact rfl; exact rfl) | ((with_reducible apply WH.pk); exact rfl; exact rfl; exact rfl)
      all_goals first
        | exact ⟨_, by omega, i + 1, M, R, c, rfl, by omega, hM, hMin, hTM, by rw [lowest_step q a hc, if_pos (by rw [← ht]; first | exact .inl (by omega) | exact .inr (by assumption))], hcin, rfl, rfl, rfl, rfl, rfl, rfl, rfl, rfl, rfl, rfl, rfl, rfl, rfl, rfl, rfl⟩
        | exact ⟨_, by omega, i + 1, M, R, t, rfl, by omega, hM, hMin, hTM, by rw [lowest_step q a hc, if_neg (by rw [← ht]; intro hh; rcases hh with hh | hh <;> first | omega | exact absurd hh (by assumption)), ← ht], htin, rfl, rfl, rfl, rfl, rfl, rfl, rfl, rfl, rfl, rfl, rfl, rfl, rfl, rfl, rfl⟩
    · have hiM : i = M.length := by omega
      subst hiM
      rw [List.take_length] at ht
      have htT : t = T := by rw [ht, hTM]
      subst htT
      repeat' first | ((with_reducible apply WR.cs); exact rfl; exact rfl; exact rfl; exact rfl; exact of_gives v _ _ (by omega); exact rfl) | ((with_reducible apply WR.ld); exact rfl; exact rfl; exact rfl; (first | exact loadC_all (IsLev.len (by assumption)))) | ((with_reducible apply WR.lx); exact rfl; exact rfl) | ((with_reducible apply WH.ld); exact rfl; exact rfl; exact rfl; (first | exact loadC_all (IsLev.len (by assumption))); exact rfl) | ((with_reducible apply WH.lx); exact rfl; exact rfl; exact rfl) | ((with_reducible apply WR.nil)) | (with_reducible refine andThen_n ?_) | (with_reducible refine W.seq ?_) | (with_reducible refine W.region ?_) | (with_reducible refine W.skip ?_) | ((with_reducible apply W.condT); exact rfl) | ((with_reducible apply W.condF); exact rfl) | (with_reducible refine W.draw ?_) | (intro hb; try (exfalso; omega)) | ((with_reducible apply WR.lss); exact rfl; exact rfl; exact rfl) | ((with_reducible apply WH.fa); exact rfl; exact rfl; exact rfl) | ((with_reducible apply WH.bu); exact rfl; exact rfl)
      · have hq := v.cb (10 * t.2.toNat + t.1.toNat) (by omega)
        (with_reducible apply WR.ca); exact rfl; exact rfl; exact rfl; exact rfl; exact more_gives v _ _ 1 (by omega) (by omega) (by omega); exact rfl
        have v' := v.set (show 10 * t.2.toNat + t.1.toNat < 100 by omega) (n := q (10 * t.2.toNat + t.1.toNat) + 1) (by omega)
        (with_reducible apply WR.st); exact rfl; exact rfl; exact rfl; exact storeAll v'.len v.len
        repeat' first | ((with_reducible apply WH.ld); exact rfl; exact rfl; exact rfl; (first | exact loadC_all (IsLev.len (by assumption))); exact rfl) | ((with_reducible apply WH.lx); exact rfl; exact rfl; exact rfl) | ((with_reducible apply WR.nil)) | (with_reducible refine andThen_n ?_) | (with_reducible refine W.seq ?_) | (with_reducible refine W.draw ?_) | ((with_reducible apply WH.fa); exact rfl; exact rfl; exact rfl) | ((with_reducible apply WH.bu); exact rfl; exact rfl)
        (with_reducible apply WH.st); exact rfl; exact rfl; exact rfl; exact storeAll v'.len rfl; exact rfl; exact rfl
        repeat' first | (with_reducible refine andThen_n ?_) | (with_reducible refine W.ret ?_) | ((with_reducible apply WH.nil)) | ((with_reducible apply WH.st); exact rfl; exact rfl; exact rfl; exact rfl; exact rfl; exact rfl)
        refine Done.r (finish_c2 rfl rfl rfl v'.len rfl rfl rfl rfl) ?_
        rw [nightLev, if_pos (by assumption)]; rfl
      · (with_reducible apply WH.st); exact rfl; exact rfl; exact rfl; exact storeAll v.len rfl; exact rfl; exact rfl
        repeat' first | (with_reducible refine andThen_n ?_) | (with_reducible refine W.ret ?_) | ((with_reducible apply WH.nil)) | ((with_reducible apply WH.st); exact rfl; exact rfl; exact rfl; exact rfl; exact rfl; exact rfl)
        refine Done.r (finish_c2 rfl rfl rfl v.len rfl rfl rfl rfl) ?_
        rw [nightLev, if_neg (by assumption)]; rfl
end Go.DM
