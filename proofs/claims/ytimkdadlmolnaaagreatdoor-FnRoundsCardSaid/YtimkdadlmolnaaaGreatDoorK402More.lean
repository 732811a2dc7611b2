/- slices.DeleteFunc over cells. -/
import Derived.Test.YtimkdadlmolnaaaGreatDoorK402Near
set_option linter.unusedSectionVars false
set_option linter.unusedSimpArgs false
set_option linter.unusedVariables false
namespace Go.DM
variable [Tok]
open Go.IntWalk
theorem encC_tk : ∀ (m : List Cel) (k : Nat), (encC m).take (k * 2) = encC (m.take k)
  | [], k => by simp [encC]
  | p :: r, 0 => by simp [encC]
  | p :: r, k + 1 => by
    rw [show (k + 1) * 2 = k * 2 + 2 by omega]
    simp only [encC, List.take_succ_cons, encC_tk r k]
theorem encC_dr : ∀ (m : List Cel) (k : Nat), (encC m).drop (k * 2) = encC (m.drop k)
  | [], k => by simp [encC]
  | p :: r, 0 => by simp [encC]
  | p :: r, k + 1 => by
    rw [show (k + 1) * 2 = k * 2 + 2 by omega]
    simp only [encC, List.drop_succ_cons, encC_dr r k]
theorem encC_rep : ∀ n : Nat, replicate n [.int .i8 0, .int .i8 0] = encC (List.replicate n (0, 0))
  | 0 => rfl
  | n + 1 => by
    have ih := encC_rep n
    simp only [replicate, List.replicate_succ, List.flatten_cons, encC] at ih ⊢
    rw [ih]; rfl
theorem encC_set (m : List Cel) (i : Nat) (c : Cel) (h : i < m.length) : (encC m).take (i * 2) ++ [.int .i8 c.1, .int .i8 c.2] ++ (encC m).drop (i * 2 + 2) = encC (m.set i c) := by
  rw [show i * 2 + 2 = (i + 1) * 2 by omega, encC_tk, encC_dr, show ([.int .i8 c.1, .int .i8 c.2] : List S) = encC [c] from rfl, ← encC_append, ← encC_append]
  congr 1
  rw [List.set_eq_take_append_cons_drop, if_pos h]
  simp
theorem storeC {p : Bool} {m : List Cel} {i : Int} {c : Cel} (hi : 0 ≤ i) (h : i < (m.length : Nat)) : storeO 2 (.a (.d (.agg [.int .i8 c.1, .int .i8 c.2]))) (0 + i.toNat * 2) (.flat p (encC m)) = some (.flat p (encC (m.set i.toNat c))) := by
  have h2 : i.toNat < m.length := by omega
  have h3 := encC_length m
  simp only [storeO, cellsOf, Nat.zero_add]
  rw [if_pos ⟨rfl, by omega⟩]
  rw [← encC_set m i.toNat c h2]
theorem clearC (m : List Cel) (k : Nat) (h : k ≤ m.length) : (encC m).take (0 + k * 2) ++ replicate (m.length - k) [.int .i8 0, .int .i8 0] ++ (encC m).drop (0 + k * 2 + (m.length - k) * 2) = encC (m.take k ++ List.replicate (m.length - k) (0, 0)) := by
  rw [Nat.zero_add, encC_tk, encC_rep, List.drop_eq_nil_of_le (by rw [encC_length]; omega), List.append_nil, encC_append]
section
variable {Γ : Nat → Option Fn} {dsts : Nat → Option Nat} {ops : List Oper} {Q : St → Prop} {σ : St} {d : Option Nat} {g : Option (Nat × Bool)} {l1 l2 l3 l4 : List Nat}
theorem bound_n {k : IntKind} {i n : Nat} : bound (some (.a (.d (.s (.int k (i : Nat)))))) n = some i := by simp [bound, asI]
theorem WR.s2 {es p off n l h : Nat} {a : Opd} {lo hi : Option Opd} (hw : wanted dsts σ.env g = some true) (ha : ev σ.env a = .a (.sl p off n es)) (hl : bound (lo.map (ev σ.env)) 0 = some l) (hh : bound (hi.map (ev σ.env)) n = some h) (hb : l ≤ h ∧ h ≤ n)
    (K : WR Γ dsts ops Q (set d (.a (.sl p (off + l * es) (h - l) es)) σ)) : WR Γ dsts (⟨d, .slc (.sl es) a lo hi, g, l1, l2, l3, l4⟩ :: ops) Q σ :=
  WR.q hw (by simp only [quiet, ha, slc, hl, hh, Option.bind_some]; rw [if_pos ⟨hb.1, hb.2, trivial⟩]) K
theorem WR.cr {es p off n : Nat} {par : Bool} {zs cs : List S} {a : Opd} (hw : wanted dsts σ.env g = some true) (ha : ev σ.env a = .a (.sl p off n es)) (ho : σ.objs p = some (.flat par cs)) (hz : zs.length = es) (hc : off + n * es ≤ cs.length)
    (K : WR Γ dsts ops Q (put p (.flat par (cs.take off ++ replicate n zs ++ cs.drop (off + n * es))) σ)) : WR Γ dsts (⟨none, .clr es zs a, g, l1, l2, l3, l4⟩ :: ops) Q σ := by
  refine WR.cons ⟨0, step_dl (r := ⟨.tup [], [], [(p, .flat par (cs.take off ++ replicate n zs ++ cs.drop (off + n * es)))]⟩) hw ?_ rfl⟩ ?_
  · simp only [delta, ha, ho]
    rw [if_pos ⟨trivial, hz, hc⟩]
  · simp only [applyD, insertAll, kill_nil, set]
    exact K
end
theorem toDV_sl {objs : Nat → Option Ob} {p : Nat} {par : Bool} {l : List Cel} (h : objs p = some (.flat par (encC l))) (k : Nat) : toDV objs (k + 1) (.a (.sl p 0 l.length 2)) = some (.sl l.length 2 (encC l)) := by
  simp only [toDV, toDA, h]
  rw [if_pos (by rw [encC_length]; omega), encC_take l _ rfl]
def kept (P : Cel → Prop) [DecidablePred P] (l : List Cel) : List Cel := l.filter fun c => decide (¬ P c)
theorem kept_all {P : Cel → Prop} [DecidablePred P] {l : List Cel} (h : ∀ c ∈ l, ¬ P c) : kept P l = l := by
  unfold kept
  rw [List.filter_eq_self]
  intro c hc; simpa using h c hc
theorem idxOf_spec (P : Cel → Prop) [DecidablePred P] : ∀ (l : List Cel) (i : Int), 0 ≤ i → (idxOf P l i = -1 ∧ ∀ c ∈ l, ¬ P c) ∨ ∃ (k : Nat) (c : Cel), idxOf P l i = i + k ∧ l[k]? = some c ∧ P c ∧ ∀ d ∈ l.take k, ¬ P d
  | [], i, hi => .inl ⟨rfl, fun c hc => by cases hc⟩
  | c :: r, i, hi => by
    by_cases h : P c
    · refine .inr ⟨0, c, ?_, rfl, h, fun d hd => by simp at hd⟩
      simp [idxOf, h]
    · rcases idxOf_spec P r (i + 1) (by omega) with ⟨h1, h2⟩ | ⟨k, d, h1, h2, h3, h4⟩
      · refine .inl ⟨by simp only [idxOf, if_neg h, h1], fun d hd => ?_⟩
        rcases List.mem_cons.1 hd with rfl | hd
        · exact h
        · exact h2 d hd
      · refine .inr ⟨k + 1, d, by simp only [idxOf, if_neg h, h1]; omega, by simpa using h2, h3, fun e he => ?_⟩
        rw [List.take_succ_cons] at he
        rcases List.mem_cons.1 he with rfl | he
        · exact h
        · exact h4 e he
theorem kept_take {P : Cel → Prop} [DecidablePred P] {l : List Cel} {j : Nat} {c : Cel} (h : l[j]? = some c) : kept P (l.take (j + 1)) = kept P (l.take j) ++ (if P c then [] else [c]) := by
  obtain ⟨h1, h2⟩ := List.getElem?_eq_some_iff.1 h
  unfold kept
  rw [List.take_add_one, h, List.filter_append]
  congr 1
  by_cases hp : P c <;> simp [hp]
theorem args_sl {σ : St} {p : Nat} {par : Bool} {l : List Cel} {x : D} (h : σ.objs p = some (.flat par (encC l))) : args σ [] [] [.a (.sl p 0 l.length 2), .a (.d x)] = some [asl l, .d x] := by
  have h1 : toDV (fun o => if ([] : List Nat).contains o then none else σ.objs o) depth (.a (.sl p 0 l.length 2)) = some (.sl l.length 2 (encC l)) := toDV_sl (by simpa using h) 5
  simp only [args]
  rw [h1]
  rfl
theorem finish_ms {fn : Fn} {σ : St} {t n es0 off m es : Nat} {cs cs' : List S} {x : D} (hr : fn.res = [.tmp t]) (he : σ.env t = .a (.sl 0 off m es)) (ho : σ.objs 0 = some (.flat true cs')) (hl : cs'.length = cs.length) :
    finish fn [.ms n es0 cs, .d x] σ = some ⟨[.par 0 off m es], [cs']⟩ := by
  simp [finish, hr, all?, resV, he, retOf, ho, nodup, outsOf, isMut, outOf, hl]
theorem deleteFunc_gives {f : Nat} {fn : Fn} {z : D} (P : Cel → Prop) [DecidablePred P] (l : List Cel) (hl : l.length ≤ 1000) (hf : G f = some fn) (hm : fn.muts = []) (hP : ∀ c ∈ l, Gives G f [ac c.1 c.2, .d z] (rb (decide (P c)))) :
    Gives G 63 [.ms l.length 2 (encC l), .d (.clo f [] [z])] ⟨[.par 0 0 (kept P l).length 2], [encC (kept P l ++ List.replicate (l.length - (kept P l).length) (0, 0))]⟩ := by
  refine Gives.by rfl rfl (W.seq ?_)
  repeat' first | ((with_reducible apply WR.mv); exact rfl; exact rfl) | ((with_reducible apply WR.nil)) | (with_reducible refine andThen_n ?_) | (with_reducible refine W.seq ?_) | (with_reducible refine W.region ?_)
  (with_reducible apply WR.cs); exact rfl; exact rfl; exact rfl; exact args_sl rfl; exact indexFunc_gives P l hl hf hm hP; exact rfl
  rcases idxOf_spec P l 0 (by omega) with ⟨h1, h2⟩ | ⟨k, c0, h1, h2, h3, h4⟩
  · rw [h1]
    repeat' first | ((with_reducible apply WR.mv); exact rfl; exact rfl) | ((with_reducible apply WR.nil)) | (with_reducible refine andThen_n ?_) | (with_reducible refine andThen_r ?_) | (with_reducible refine W.seq ?_) | (with_reducible refine W.region ?_) | (with_reducible refine W.ret ?_) | ((with_reducible apply W.condT); exact rfl) | (intro hb; try (exfalso; omega)) | ((with_reducible apply WR.eql); exact rfl; exact rfl; exact rfl)
    refine Done.r (finish_ms rfl rfl rfl rfl) ?_
    rw [kept_all h2]; simp
  · rw [show idxOf P l 0 = (k : Int) by omega]
    have hk : k < l.length := (List.getElem?_eq_some_iff.1 h2).1
    repeat' first | ((with_reducible apply WR.mv); exact rfl; exact rfl) | ((with_reducible apply WR.ad); exact rfl; exact rfl; exact rfl; (first | exact i64_in _ (by omega))) | ((with_reducible apply WR.nil)) | (with_reducible refine andThen_n ?_) | (with_reducible refine W.seq ?_) | (with_reducible refine W.region ?_) | (with_reducible refine W.skip ?_) | (with_reducible refine W.block ?_) | ((with_reducible apply W.condF); exact rfl) | (intro hb; try (exfalso; omega)) | ((with_reducible apply WR.eql); exact rfl; exact rfl; exact rfl)
    refine W.loopI (fun n σ => ∃ (i j : Nat) (m : List Cel), n = l.length - j ∧ i ≤ j ∧ j ≤ l.length ∧ m.length = l.length ∧ m.take i = kept P (l.take j) ∧ m.drop j = l.drop j ∧ σ.env 5 = .a (.d (.s (.int .i64 i))) ∧ σ.env 6 = .a (.d (.s (.int .i64 j))) ∧ σ.env 0 = .a (.sl 0 0 l.length 2) ∧ σ.env 1 = .a (.d (.clo f [] [z])) ∧ σ.objs 0 = some (.flat true (encC m)) ∧ noPar σ [7] = true)
      ?_ _ _ ⟨k, k + 1, l, rfl, by omega, by omega, rfl, by rw [kept_take h2, if_pos h3, kept_all h4, List.append_nil], rfl, rfl, rfl, rfl, rfl, rfl, rfl⟩
    rintro n σ ⟨i, j, m, rfl, hij, hj, hml, hti, hdj, e5, e6, e0, e1, o0, n7⟩
    rw [← set_self e5, ← set_self e6, ← set_self e0, ← set_self e1, ← put_self o0]
    repeat' first | ((with_reducible apply WR.mv); exact rfl; exact rfl) | ((with_reducible apply WR.nil)) | (with_reducible refine andThen_n ?_) | (with_reducible refine andThen_x ?_) | (with_reducible refine inB_x ?_) | (with_reducible refine W.seq ?_) | (with_reducible refine W.region ?_) | (with_reducible refine W.skip ?_) | (with_reducible refine W.exit ?_) | (with_reducible refine W.block ?_) | ((with_reducible apply W.condT); exact rfl) | ((with_reducible apply W.condF); exact rfl) | (intro hb; try (exfalso; omega)) | ((with_reducible apply WR.lss); exact rfl; exact rfl; exact rfl) | ((with_reducible apply WR.le); exact rfl; exact rfl)
    · obtain ⟨c, hc⟩ : ∃ c, l[j]? = some c := ⟨l[j]'(by omega), by simp⟩
      have hmc : m[j]? = some c := by
        have e1 : (m.drop j)[0]? = m[j]? := by simp
        have e2 : (l.drop j)[0]? = l[j]? := by simp
        rw [← e1, hdj, e2, hc]
      have hdj' : m.drop (j + 1) = l.drop (j + 1) := by
        have := congrArg (List.drop 1) hdj
        rwa [List.drop_drop, List.drop_drop] at this
      have hmem : c ∈ l := List.mem_of_getElem? hc
      (with_reducible apply WR.is); exact rfl; exact rfl; exact rfl; exact ⟨by omega, by omega⟩
      (with_reducible apply WR.ld); exact rfl; exact rfl; exact rfl; exact encC_load' m j (by omega) c (by simpa using hmc)
      repeat' first | ((with_reducible apply WR.mv); exact rfl; exact rfl) | ((with_reducible apply WR.lx); exact rfl; exact rfl) | ((with_reducible apply WR.nil)) | (with_reducible refine andThen_n ?_) | (with_reducible refine W.seq ?_) | (with_reducible refine W.region ?_) | ((with_reducible apply WR.st); exact rfl; exact rfl; exact rfl; exact rfl) | ((with_reducible apply WR.al); exact rfl; (first | assumption))
      (with_reducible apply WR.vp); exact rfl; exact rfl; exact hf; exact hm; exact rfl; exact hP c hmem
      all_goals repeat' first | ((with_reducible apply WR.mv); exact rfl; exact rfl) | ((with_reducible apply WR.ad); exact rfl; exact rfl; exact rfl; (first | exact i64_in _ (by omega))) | ((with_reducible apply WR.lx); exact rfl; exact rfl) | ((with_reducible apply WR.nil)) | (with_reducible refine andThen_n ?_) | (with_reducible refine inB_n ?_) | (with_reducible refine W.seq ?_) | (with_reducible refine W.region ?_) | (with_reducible refine W.skip ?_) | ((with_reducible apply W.condT); exact rfl) | ((with_reducible apply W.condF); exact rfl) | (intro hb; try (exfalso; omega)) | ((with_reducible apply WR.un); exact rfl; exact rfl)
      · have hp : P c := by assumption
        exact ⟨_, by omega, i, j + 1, m, rfl, by omega, by omega, hml, by rw [kept_take hc, if_pos hp, List.append_nil, hti], hdj', rfl, rfl, rfl, rfl, rfl, rfl⟩
      · have hp : ¬ P c := by assumption
        (with_reducible apply WR.is); exact rfl; exact rfl; exact rfl; exact ⟨by omega, by omega⟩
        (with_reducible apply WR.st); exact rfl; exact rfl; exact rfl; exact storeC (by omega) (by omega)
        repeat' first | ((with_reducible apply WR.mv); exact rfl; exact rfl) | ((with_reducible apply WR.ad); exact rfl; exact rfl; exact rfl; (first | exact i64_in _ (by omega))) | ((with_reducible apply WR.nil)) | (with_reducible refine andThen_n ?_) | (with_reducible refine inB_n ?_) | (with_reducible refine W.region ?_)
        refine ⟨_, by omega, i + 1, j + 1, m.set i c, rfl, by omega, by omega, by simpa using hml, ?_, ?_, rfl, rfl, rfl, rfl, rfl, rfl⟩
        · rw [kept_take hc, if_neg hp, ← hti, List.take_add_one, List.take_set_of_le (by omega), List.getElem?_set_self (by omega)]
          rfl
        · rw [List.drop_set_of_lt (by omega), hdj']
    · have hjn : j = l.length := by omega
      subst hjn
      rw [List.take_length] at hti
      have hil : (kept P l).length = i := by rw [← hti, List.length_take]; omega
      (with_reducible apply WR.s2); exact rfl; exact rfl; exact bound_n; exact rfl; exact ⟨by omega, by omega⟩
      (with_reducible apply WR.cr); exact rfl; exact rfl; exact rfl; exact rfl; exact (by rw [encC_length]; omega)
      repeat' first | ((with_reducible apply WR.mv); exact rfl; exact rfl) | ((with_reducible apply WR.nil)) | (with_reducible refine andThen_n ?_) | (with_reducible refine W.seq ?_) | (with_reducible refine W.region ?_)
      (with_reducible apply WR.s2); exact rfl; exact rfl; exact rfl; exact bound_n; exact ⟨by omega, by omega⟩
      repeat' first | ((with_reducible apply WR.mv); exact rfl; exact rfl) | ((with_reducible apply WR.nil)) | (with_reducible refine andThen_n ?_) | (with_reducible refine W.ret ?_)
      have hcl := clearC m i (by omega)
      rw [hml, hti] at hcl
      rw [hil, ← hcl]
      refine Done.r (finish_ms rfl rfl rfl ?_) ?_
      · rw [hcl, encC_length, encC_length, List.length_append, List.length_replicate, hil]; omega
      · simp
end Go.DM

/- Levels with one more; the closures of a mole's night. -/
namespace Go.DM
variable [Tok]
open Go.IntWalk
variable {w h : Int} {g : Nat → Int} {cs : List S} {q : Nat → Int} {qs : List S}
theorem storeAll {p : Bool} {n : Nat} {cs xs : List S} (h1 : xs.length = n) (h2 : cs.length = n) : storeO n (.a (.d (.agg xs))) 0 (.flat p cs) = some (.flat p xs) := by
  simp only [storeO, cellsOf]
  rw [if_pos ⟨h1, by omega⟩, List.drop_eq_nil_of_le (by omega)]
  simp
def levSet (q : Nat → Int) (k : Nat) (n : Int) : Nat → Int := fun i => if i = k then n else q i
theorem IsLev.set (v : IsLev q qs) {k : Nat} (hk : k < 100) {n : Int} (hn : -128 ≤ n ∧ n ≤ 127) : IsLev (levSet q k n) (qs.set k (.int .i8 n)) := by
  refine ⟨fun i hi => ?_, by rw [List.length_set]; exact v.len, fun i hi => ?_⟩
  · simp only [levSet]; split
    · exact hn
    · exact v.cb i hi
  · simp only [levSet]
    by_cases e : i = k
    · subst e; rw [if_pos rfl, List.getElem?_set_self (by rw [v.len]; exact hi)]
    · rw [if_neg e, List.getElem?_set_ne (fun h => e h.symm)]; exact v.c i hi
end Go.DM
