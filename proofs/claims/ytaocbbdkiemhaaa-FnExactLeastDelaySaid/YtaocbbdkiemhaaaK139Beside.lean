/- slices.Index over cells. -/
import Derived.Test.YtaocbbdkiemhaaaK139Night
import Derived.Test.YtaocbbdkiemhaaaK139Loop
set_option linter.unusedSimpArgs false
set_option linter.unusedVariables false
namespace Go.DM
set_option linter.unusedSectionVars false
variable [Tok]
open Go.IntWalk

theorem index_gives (l : List Cel) (hl : l.length ≤ 1000) (x y : Int) : Gives G 27 [asl l, ac x y] (ri .i64 (idxOf (fun c => x = c.1 ∧ y = c.2) l 0)) := by
  refine Gives.by rfl rfl (W.seq ?_)
  repeat' first | ((with_reducible apply WR.mv); exact rfl; exact rfl) | ((with_reducible apply WR.nil)) | (with_reducible refine andThen_n ?_) | (with_reducible refine W.seq ?_) | (with_reducible refine W.region ?_) | (with_reducible refine W.block ?_) | ((with_reducible apply WR.bo); exact rfl; exact rfl; (first | exact rfl)) | ((with_reducible apply WR.le); exact rfl; exact rfl)
  refine W.loopI (fun n σ => ∃ i : Int, n = (l.length - i).toNat ∧ 0 ≤ i ∧ i ≤ l.length ∧ idxOf (fun c => x = c.1 ∧ y = c.2) l 0 = idxOf (fun c => x = c.1 ∧ y = c.2) (l.drop i.toNat) i ∧ σ.env 8 = .a (.d (.s (.int .i64 i))) ∧ σ.env 7 = .a (.d (.s (.int .i64 (l.length : Nat)))) ∧ σ.env 0 = .a (.d (.sl l.length 2 (encC l))) ∧ σ.env 3 = .a (.ptr 3 0) ∧ σ.objs 3 = some (.flat false [.int .i8 x, .int .i8 y]))
    ?_ _ _ ⟨0, rfl, by omega, by omega, rfl, rfl, rfl, rfl, rfl, rfl⟩
  rintro n σ ⟨i, rfl, i0, i1, hi, e8, e7, e0, e3, o3⟩
  rw [← set_self e8, ← set_self e7, ← set_self e0, ← set_self e3, ← put_self o3]
  repeat' first | ((with_reducible apply WR.mv); exact rfl; exact rfl) | ((with_reducible apply WR.nil)) | (with_reducible refine andThen_n ?_) | (with_reducible refine andThen_x ?_) | (with_reducible refine inB_x ?_) | (with_reducible refine W.seq ?_) | (with_reducible refine W.region ?_) | (with_reducible refine W.skip ?_) | (with_reducible refine W.ret ?_) | (with_reducible refine W.exit ?_) | (with_reducible refine W.block ?_) | ((with_reducible apply W.condT); exact rfl) | ((with_reducible apply W.condF); exact rfl) | ((with_reducible apply Done.r); exact rfl) | (with_reducible refine W.draw ?_) | (intro hb; try (exfalso; omega)) | ((with_reducible apply WH.mv); exact rfl; exact rfl; exact rfl) | ((with_reducible apply WH.lx); exact rfl; exact rfl; exact rfl) | ((with_reducible apply WR.lss); exact rfl; exact rfl; exact rfl)
  · obtain ⟨c, hc⟩ := get_of_lt i0 (by assumption)
    (with_reducible apply WH.id); exact rfl; exact rfl; exact rfl; exact ⟨i0, by assumption⟩; exact Nat.le_of_eq (encC_length l).symm; exact rfl
    (with_reducible apply WH.ldd); exact rfl; exact rfl; exact encC_load l _ c hc; exact rfl
    repeat' first | ((with_reducible apply WR.mv); exact rfl; exact rfl) | ((with_reducible apply WR.nil)) | (with_reducible refine andThen_n ?_) | (with_reducible refine andThen_r ?_) | (with_reducible refine inB_n ?_) | (with_reducible refine inB_r ?_) | (with_reducible refine W.seq ?_) | (with_reducible refine W.region ?_) | (with_reducible refine W.skip ?_) | (with_reducible refine W.ret ?_) | ((with_reducible apply W.condT); exact rfl) | ((with_reducible apply W.condF); exact rfl) | ((with_reducible apply Done.r); exact rfl) | ((with_reducible apply WH.nil)) | (intro hb; try (exfalso; omega)) | ((with_reducible apply WR.ad); exact rfl; exact rfl; exact rfl; (first | exact i64_in _ (by omega))) | ((with_reducible apply WH.ec); exact rfl; exact rfl; exact rfl)
    all_goals first
      | (rw [hi, idxOf_step _ i0 hc, if_pos (by assumption)]; rfl)
      | exact ⟨_, by omega, i + 1, rfl, by omega, by omega, by rw [hi, idxOf_step _ i0 hc, if_neg (by assumption)], rfl, rfl, rfl, rfl, rfl⟩
  · have : l.drop i.toNat = [] := List.drop_eq_nil_of_le (by omega)
    rw [hi, this]; rfl
end Go.DM

/- Some nights of a mole: the program's side. -/
set_option linter.unusedSimpArgs false
set_option linter.unusedVariables false
namespace Go.DM
set_option linter.unusedSectionVars false
variable [Tok]
open Go.IntWalk
variable {w h : Int} {g : Nat → Int} {cs : List S} {q : Nat → Int} {qs : List S}

/-- Levels, and where the mole is and was. -/
structure Mole where
  q : Nat → Int
  qs : List S
  a : Cel
  b : Cel
def nextQ (q : Nat → Int) (t : Cel) : Nat → Int := if lv q t < 9 then levSet q (10 * t.2.toNat + t.1.toNat) (lv q t + 1) else q
def Mole.next (w h : Int) (g : Nat → Int) (m : Mole) : Mole := ⟨nextQ m.q (goes w h g m.q m.a m.b), nightLev m.q m.qs (goes w h g m.q m.a m.b), goes w h g m.q m.a m.b, m.a⟩
def Mole.after (w h : Int) (g : Nat → Int) (m : Mole) : Nat → Mole
  | 0 => m
  | n + 1 => (m.after w h g n).next w h g
def Mole.path (w h : Int) (g : Nat → Int) (m : Mole) : Nat → List Cel
  | 0 => [m.a]
  | n + 1 => m.path w h g n ++ [(m.after w h g (n + 1)).a]
theorem Mole.path_length (m : Mole) : ∀ n, (m.path w h g n).length = n + 1
  | 0 => rfl
  | n + 1 => by simp [Mole.path, Mole.path_length m n]
structure Mole.Ok (m : Mole) : Prop where
  v : IsLev m.q m.qs
  a : 0 ≤ m.a.1 ∧ m.a.1 < 10 ∧ 0 ≤ m.a.2 ∧ m.a.2 < 10
theorem lowest_mem (q : Nat → Int) (a : Cel) : ∀ l : List Cel, lowest q a l = a ∨ lowest q a l ∈ l
  | [] => .inl rfl
  | c :: r => by
    refine .inr ?_
    have key : ∀ (r : List Cel) (t : Cel), r.foldl (fun t c => if lv q c < lv q t then c else t) t = t ∨ r.foldl (fun t c => if lv q c < lv q t then c else t) t ∈ r := by
      intro r
      induction r with
      | nil => intro t; exact .inl rfl
      | cons d r ih =>
        intro t
        simp only [List.foldl_cons]
        rcases ih (if lv q d < lv q t then d else t) with h | h
        · rw [h]; split
          · exact .inr (List.mem_cons_self ..)
          · exact .inl rfl
        · exact .inr (List.mem_cons_of_mem _ h)
    rcases key r c with h | h
    · simp only [lowest, h]; exact List.mem_cons_self ..
    · simp only [lowest]; exact List.mem_cons_of_mem _ h
theorem goes_in (hs : w ≤ 10 ∧ h ≤ 10) (q : Nat → Int) {a b : Cel} (ha : 0 ≤ a.1 ∧ a.1 < 10 ∧ 0 ≤ a.2 ∧ a.2 < 10) : 0 ≤ (goes w h g q a b).1 ∧ (goes w h g q a b).1 < 10 ∧ 0 ≤ (goes w h g q a b).2 ∧ (goes w h g q a b).2 < 10 := by
  unfold goes
  rcases lowest_mem q a (if 1 < (kept (fun c => ¬ Is w h g 0 c.1 c.2) (Near a.1 a.2)).length then kept (fun c => c.1 = b.1 ∧ c.2 = b.2) (kept (fun c => ¬ Is w h g 0 c.1 c.2) (Near a.1 a.2)) else kept (fun c => ¬ Is w h g 0 c.1 c.2) (Near a.1 a.2)) with e | e
  · simp only [e]; exact ha
  · exact near_in hs e
theorem Mole.Ok.next (hs : w ≤ 10 ∧ h ≤ 10) {m : Mole} (k : m.Ok) : (m.next w h g).Ok := by
  have hin := goes_in (g := g) hs m.q (b := m.b) k.a
  refine ⟨?_, hin⟩
  simp only [Mole.next, nextQ, nightLev]
  generalize goes w h g m.q m.a m.b = t at hin
  have hk : 10 * t.2.toNat + t.1.toNat < 100 := by omega
  have := k.v.cb _ hk
  split
  · rename_i h9; exact k.v.set hk (by simp only [lv] at h9 ⊢; omega)
  · exact k.v
theorem Mole.Ok.after (hs : w ≤ 10 ∧ h ≤ 10) {m : Mole} (k : m.Ok) : ∀ n, (m.after w h g n).Ok
  | 0 => k
  | n + 1 => (k.after hs n).next hs

section
variable {Γ : Nat → Option Fn} {dsts : Nat → Option Nat} {ops : List Oper} {Q : St → Prop} {σ : St} {gd : Option (Nat × Bool)} {l1 l2 l3 l4 : List Nat}
/-- A call that answers twice several cells. -/
theorem WR.ca2 {f e : Nat} {xs : List Opd} {fn : Fn} {as : List Arg} {b b' : List S} (hw : wanted dsts σ.env gd = some true) (hΓ : Γ f = some fn)
    (hn : mutIds fn.muts (xs.map (ev σ.env)) = []) (ha : args σ [] fn.muts (xs.map (ev σ.env)) = some as) (hg : Gives Γ f as ⟨[.agg b, .agg b'], []⟩) (hb : backs σ fn.muts (xs.map (ev σ.env)) [] = some [])
    (k : WR Γ dsts ops Q (set (some e) (.tup [.d (.agg b), .d (.agg b')]) σ)) : WR Γ dsts (⟨some e, .call f xs, gd, l1, l2, l3, l4⟩ :: ops) Q σ := by
  refine WR.call (d := e) (v := .tup [.d (.agg b), .d (.agg b')]) (ps := []) (ns := []) hw rfl rfl hΓ (by rw [hn]; rfl) (by rw [hn]; exact ha) hg hb rfl rfl rfl ?_
  simp only [List.append_nil, List.map_nil, insertAll, kill_nil]
  exact k
end
theorem finish_cs {fn : Fn} {σ : St} {as : List Arg} {t n p t' p' : Nat} {b : Bool} {cs : List S} {l : List Cel} (hr : fn.res = [.cell t n true, .tmp t']) (he : σ.env t = .a (.ptr p 0)) (ho : σ.objs p = some (.flat b cs)) (hl : cs.length = n)
    (he' : σ.env t' = .a (.sl p' 0 l.length 2)) (ho' : σ.objs p' = some (.flat false (encC l))) (hm : outsOf σ 0 as = some []) : finish fn as σ = some ⟨[.agg cs, .own l.length 2 (encC l)], []⟩ := by
  have h1 : retOf as σ (.a (.sl p' 0 l.length 2)) = some (.own l.length 2 (encC l), some p') := by
    simp only [retOf, ho']
    rw [if_pos (by rw [encC_length]; omega), encC_take l _ rfl]
  simp only [finish, hr, all?, resV, he, he', load, ho, loadC_all hl, Option.bind_some, Option.map_some, h1]
  simp [retOf, nodup, hm]

end Go.DM

/- The cells beside a cell, of the reference. -/
set_option linter.unusedSimpArgs false
set_option linter.unusedVariables false
namespace Go.DM
set_option linter.unusedSectionVars false
variable [Tok]
open Go.IntWalk
variable {w h : Int} {g : Nat → Int} {cs : List S} {q : Nat → Int} {qs : List S}

def inside (w h : Int) (l : List Cel) : List Cel := l.filter fun c => decide (Has w h c.1 c.2)
theorem filter_snoc {α : Type} {p : α → Bool} {l : List α} {i : Nat} {c : α} (h : l[i]? = some c) : (l.take (i + 1)).filter p = (l.take i).filter p ++ (if p c then [c] else []) := by
  rw [List.take_add_one, h, List.filter_append]
  congr 1
  simp only [Option.toList_some, List.filter_cons, List.filter_nil]
theorem Near_b {x y : Int} {c : Cel} (h : c ∈ Near x y) : x - 1 ≤ c.1 ∧ c.1 ≤ x + 1 ∧ y - 1 ≤ c.2 ∧ c.2 ≤ y + 1 := by
  simp only [Near, List.mem_cons, List.not_mem_nil, or_false] at h
  rcases h with rfl | rfl | rfl | rfl <;> simp <;> omega
theorem inside_step {w h : Int} {l : List Cel} {i : Nat} (hi : i < l.length) : inside w h (l.take (i + 1)) = inside w h (l.take i) ++ (if Has w h (gC l i).1 (gC l i).2 then [gC l i] else []) := by
  unfold inside; rw [filter_snoc (gC_get hi)]; congr 1; simp only [decide_eq_true_eq]
theorem inside_len {w h : Int} {l : List Cel} : (inside w h l).length ≤ l.length := List.length_filter_le ..
end Go.DM
