/- A mole's night: the program's side. -/
import Derived.Test.YtaocbbdkiemhaaaK139More
set_option linter.unusedSimpArgs false
set_option linter.unusedVariables false
namespace Go.DM
set_option linter.unusedSectionVars false
variable [Tok]
open Go.IntWalk
variable {w h : Int} {g : Nat → Int} {cs : List S} {q : Nat → Int} {qs : List S}

theorem encC_takeA (l r : List Cel) : ((encC (l ++ r)).drop 0).take (l.length * 2) = encC l := by
  rw [List.drop_zero, encC_tk, List.take_left']; rfl

section
variable {Γ : Nat → Option Fn} {dsts : Nat → Option Nat} {ops : List Oper} {Q : St → Prop} {σ : St} {d : Option Nat} {gd : Option (Nat × Bool)} {l1 l2 l3 l4 : List Nat}
end
def lv (q : Nat → Int) (c : Cel) : Int := q (10 * c.2.toNat + c.1.toNat)
/-- The lowest of some cells, the first one of several. -/
def lowest (q : Nat → Int) (at' : Cel) : List Cel → Cel
  | [] => at'
  | c :: r => r.foldl (fun t c => if lv q c < lv q t then c else t) c
/-- Where a mole goes. -/
def goes (w h : Int) (g q : Nat → Int) (a b : Cel) : Cel :=
  let near := kept (fun c => ¬ Is w h g 0 c.1 c.2) (Near a.1 a.2)
  lowest q a (if 1 < near.length then kept (fun c => c.1 = b.1 ∧ c.2 = b.2) near else near)

theorem kept_mem {P : Cel → Prop} [DecidablePred P] {l : List Cel} {c : Cel} (h : c ∈ kept P l) : c ∈ l ∧ ¬ P c := by
  unfold kept at h
  rw [List.mem_filter] at h
  exact ⟨h.1, by simpa using h.2⟩
theorem near_in (hs : w ≤ 10 ∧ h ≤ 10) {a b : Cel} {c : Cel} (hc : c ∈ (if 1 < (kept (fun c => ¬ Is w h g 0 c.1 c.2) (Near a.1 a.2)).length then kept (fun c => c.1 = b.1 ∧ c.2 = b.2) (kept (fun c => ¬ Is w h g 0 c.1 c.2) (Near a.1 a.2)) else kept (fun c => ¬ Is w h g 0 c.1 c.2) (Near a.1 a.2))) :
    0 ≤ c.1 ∧ c.1 < 10 ∧ 0 ≤ c.2 ∧ c.2 < 10 := by
  have : c ∈ kept (fun c => ¬ Is w h g 0 c.1 c.2) (Near a.1 a.2) := by
    split at hc
    · exact (kept_mem hc).1
    · exact hc
  have h2 := Decidable.not_not.1 (kept_mem this).2
  simp only [Is] at h2
  omega

section
variable {Γ : Nat → Option Fn} {dsts : Nat → Option Nat} {ops : List Oper} {Q : St → Prop} {σ : St} {gd : Option (Nat × Bool)} {l1 l2 l3 l4 : List Nat}
/-- A call that answers several cells. -/
theorem WR.ca {f e : Nat} {xs : List Opd} {fn : Fn} {as : List Arg} {b : List S} (hw : wanted dsts σ.env gd = some true) (hΓ : Γ f = some fn)
    (hn : mutIds fn.muts (xs.map (ev σ.env)) = []) (ha : args σ [] fn.muts (xs.map (ev σ.env)) = some as) (hg : Gives Γ f as ⟨[.agg b], []⟩) (hb : backs σ fn.muts (xs.map (ev σ.env)) [] = some [])
    (k : WR Γ dsts ops Q (set (some e) (.a (.d (.agg b))) σ)) : WR Γ dsts (⟨some e, .call f xs, gd, l1, l2, l3, l4⟩ :: ops) Q σ := by
  refine WR.call (d := e) (v := .a (.d (.agg b))) (ps := []) (ns := []) hw rfl rfl hΓ (by rw [hn]; rfl) (by rw [hn]; exact ha) hg hb rfl rfl rfl ?_
  simp only [List.append_nil, List.map_nil, insertAll, kill_nil]
  exact k
end
theorem finish_c2 {fn : Fn} {σ : St} {as : List Arg} {t n p t' n' p' : Nat} {b b' : Bool} {cs cs' : List S} (hr : fn.res = [.cell t n true, .cell t' n' true]) (he : σ.env t = .a (.ptr p 0)) (ho : σ.objs p = some (.flat b cs)) (hl : cs.length = n)
    (he' : σ.env t' = .a (.ptr p' 0)) (ho' : σ.objs p' = some (.flat b' cs')) (hl' : cs'.length = n') (hm : outsOf σ 0 as = some []) : finish fn as σ = some ⟨[.agg cs, .agg cs'], []⟩ := by
  simp only [finish, hr, all?, resV, he, he', load, ho, ho', loadC_all hl, loadC_all hl', Option.bind_some, Option.map_some, retOf]
  simp [nodup, hm]
theorem lowest_step (q : Nat → Int) (a : Cel) {M : List Cel} {i : Nat} {c : Cel} (h : M[i]? = some c) : lowest q a (M.take (i + 1)) = if i = 0 ∨ lv q c < lv q (lowest q a (M.take i)) then c else lowest q a (M.take i) := by
  rw [List.take_add_one, h]
  cases M with
  | nil => simp at h
  | cons d r =>
    cases i with
    | zero => simp at h; simp [lowest, h]
    | succ i =>
      simp only [List.take_succ_cons, Option.toList_some, List.cons_append, lowest, List.foldl_append, List.foldl_cons, List.foldl_nil]
      simp

def nightLev (q : Nat → Int) (qs : List S) (t : Cel) : List S := if lv q t < 9 then qs.set (10 * t.2.toNat + t.1.toNat) (.int .i8 (lv q t + 1)) else qs
abbrev moleS (a b : Cel) : List S := [.int .i8 a.1, .int .i8 a.2, .int .i8 b.1, .int .i8 b.2]

end Go.DM
