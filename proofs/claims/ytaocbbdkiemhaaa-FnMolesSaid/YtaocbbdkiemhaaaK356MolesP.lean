/- Moles told of: plain facts. -/
import Derived.Test.YtaocbbdkiemhaaaK356Moles
import Derived.Test.YtaocbbdkiemhaaaK356Walk
set_option linter.unusedSimpArgs false
set_option linter.unusedVariables false
set_option maxHeartbeats 4000000
namespace Go.DM
set_option linter.unusedSectionVars false
variable [Tok]
open Go.IntWalk
variable {w h : Int} {g : Nat → Int} {cs : List S} {q : Nat → Int} {qs : List S}

/-! Where a mole goes. -/
theorem goes_bes (q : Nat → Int) (a b : Cel) : Bes (goes w h g q a b) a := by
  rw [bes_iff]
  have hgo : goes w h g q a b = lowest q a (if 1 < (kept (fun c => ¬ Is w h g 0 c.1 c.2) (Near a.1 a.2)).length then kept (fun c => c.1 = b.1 ∧ c.2 = b.2) (kept (fun c => ¬ Is w h g 0 c.1 c.2) (Near a.1 a.2)) else kept (fun c => ¬ Is w h g 0 c.1 c.2) (Near a.1 a.2)) := rfl
  rw [hgo]
  rcases lowest_mem q a (if 1 < (kept (fun c => ¬ Is w h g 0 c.1 c.2) (Near a.1 a.2)).length then kept (fun c => c.1 = b.1 ∧ c.2 = b.2) (kept (fun c => ¬ Is w h g 0 c.1 c.2) (Near a.1 a.2)) else kept (fun c => ¬ Is w h g 0 c.1 c.2) (Near a.1 a.2)) with e | e
  · left; exact e.symm
  · right
    split at e
    · rename_i h1
      rw [if_pos h1]
      exact (List.mem_filter.1 (List.mem_filter.1 e).1).1
    · rename_i h1
      rw [if_neg h1]
      exact (List.mem_filter.1 e).1
/-! The path. -/
theorem path_get (m : Mole) : ∀ (n k : Nat), k ≤ n → (m.path w h g n)[k]? = some (m.after w h g k).a
  | 0, k, hk => by
    obtain rfl : k = 0 := by omega
    rfl
  | n + 1, k, hk => by
    have hl := m.path_length (w := w) (h := h) (g := g) n
    by_cases e : k = n + 1
    · subst e
      simp only [Mole.path]
      rw [List.getElem?_append_right (by omega), hl]
      simp
    · simp only [Mole.path]
      rw [List.getElem?_append_left (by omega)]
      exact path_get m n k (by omega)
theorem path_gC (m : Mole) {n k : Nat} (hk : k ≤ n) : gC (m.path w h g n) k = (m.after w h g k).a := by
  simp [gC, List.getD_eq_getElem?_getD, path_get m n k hk]
/-! Sums of soil. -/
theorem tot_set {q : Nat → Int} {t : Cel} {n : Int} (ht : 0 ≤ t.1 ∧ t.1 < 10 ∧ 0 ≤ t.2 ∧ t.2 < 10) : ∀ {L : List Cel}, (∀ c ∈ L, 0 ≤ c.1 ∧ c.1 < 10 ∧ 0 ≤ c.2 ∧ c.2 < 10) → L.Nodup →
    tot (lv (levSet q (10 * t.2.toNat + t.1.toNat) n)) L = tot (lv q) L + (if t ∈ L then n - lv q t else 0)
  | [], _, _ => by simp [tot]
  | c :: r, hin, hnd => by
    have hc := hin c (List.mem_cons_self ..)
    rw [List.nodup_cons] at hnd
    have ih := tot_set ht (n := n) (q := q) (fun d hd => hin d (List.mem_cons_of_mem _ hd)) hnd.2
    simp only [tot, ih]
    by_cases e : t = c
    · subst e
      rw [if_neg hnd.1, if_pos (List.mem_cons_self ..)]
      simp [lv, levSet]
      omega
    · have hne : ¬ 10 * c.2.toNat + c.1.toNat = 10 * t.2.toNat + t.1.toNat := fun h0 => e (Prod.ext (by omega) (by omega))
      have h1 : lv (levSet q (10 * t.2.toNat + t.1.toNat) n) c = lv q c := by simp only [lv, levSet]; rw [if_neg hne]
      rw [h1]
      by_cases hm : t ∈ r
      · rw [if_pos hm, if_pos (List.mem_cons_of_mem _ hm)]; omega
      · rw [if_neg hm, if_neg (fun h0 => by rcases List.mem_cons.1 h0 with h0 | h0; exact e h0; exact hm h0)]; omega
theorem allNd (hw : 0 ≤ w) : (allC w h).Nodup := by
  unfold allC cellsTo List.Nodup
  rw [List.pairwise_map]
  refine List.Pairwise.imp (fun {a b} hab he => hab ?_) List.nodup_range
  rw [Prod.mk.injEq, Int.natCast_inj, Int.natCast_inj] at he
  rw [← Nat.div_add_mod a w.toNat, ← Nat.div_add_mod b w.toNat, he.1, he.2]
theorem tot_next {m : Mole} (hs : 0 ≤ w ∧ w ≤ 10 ∧ h ≤ 10) (k : m.Ok) : tot (lv m.q) (allC w h) ≤ tot (lv (m.next w h g).q) (allC w h) ∧ tot (lv (m.next w h g).q) (allC w h) ≤ tot (lv m.q) (allC w h) + 1 := by
  have hin := goes_in (g := g) (h := h) (w := w) (by omega) m.q (b := m.b) k.a
  show _ ≤ tot (lv (nextQ m.q (goes w h g m.q m.a m.b))) (allC w h) ∧ tot (lv (nextQ m.q (goes w h g m.q m.a m.b))) (allC w h) ≤ _
  generalize goes w h g m.q m.a m.b = t at hin ⊢
  unfold nextQ
  split
  · rw [tot_set hin (fun c hc => by have := allC_mem hc; simp only [Has] at this; omega) (allNd (by omega))]
    split <;> omega
  · omega
theorem tot_bound {f : Cel → Int} : ∀ {L : List Cel}, (∀ c ∈ L, -9 ≤ f c ∧ f c ≤ 9) → -9 * (L.length : Int) ≤ tot f L ∧ tot f L ≤ 9 * (L.length : Int)
  | [], _ => by simp [tot]
  | c :: r, hb => by
    have h1 := hb c (List.mem_cons_self ..)
    have h2 := tot_bound (L := r) (fun d hd => hb d (List.mem_cons_of_mem _ hd))
    simp only [tot, List.length_cons]
    omega
/-! Levels that are told of stay levels. -/
theorem lev_next {m : Mole} (hL : LevOk w h g m.q) (k : m.Ok) (ha : Is w h g 0 m.a.1 m.a.2) : LevOk w h g (m.next w h g).q := by
  have ht := goes_is (q := m.q) (b := m.b) (w := w) (h := h) (g := g) (a := m.a) ha
  refine ⟨hL.1, fun i hi => ?_⟩
  show levCell w h g (nextQ m.q (goes w h g m.q m.a m.b)) i
  generalize goes w h g m.q m.a m.b = t at ht ⊢
  have h0 := hL.2 i hi
  unfold nextQ
  split
  · rename_i h9
    simp only [levCell, levSet] at h0 ⊢
    split
    · rename_i e
      subst e
      have h1 := hL.2 _ hi
      simp only [levCell] at h1
      simp only [lv] at h9 ⊢
      obtain ⟨hb, hg⟩ := ht
      have hz := hL.1.1
      have hz2 := hL.1.2.1
      exact ⟨by omega, .inr ⟨by omega, by omega, hg⟩⟩
    · exact h0
  · exact h0
theorem lev_after {m : Mole} (hL : LevOk w h g m.q) (k : m.Ok) (ha : Is w h g 0 m.a.1 m.a.2) : ∀ n, LevOk w h g (m.after w h g n).q
  | 0 => hL
  | n + 1 => lev_next (lev_after hL k ha n) (k.after ⟨hL.1.1.2, hL.1.2.1.2⟩ n) (after_is ha n)

/-! Counts. -/
theorem cntL_append (c : Cel) : ∀ (L M : List Cel), cntL (L ++ M) c = cntL L c + cntL M c
  | [], M => by simp [cntL]
  | d :: r, M => by simp only [List.cons_append, cntL, cntL_append c r M]; omega
theorem cntL_dd : ∀ (n : Nat) (L : List Cel), L.length = n → ∀ c, cntL (dd L) c = if c ∈ L then 1 else 0
  | 0, L, hl, c => by obtain rfl := List.eq_nil_of_length_eq_zero hl; rfl
  | n + 1, L, hl, c => by
    have hne : L ≠ [] := fun e => by rw [e] at hl; cases hl
    have e := List.dropLast_concat_getLast hne
    have ih := cntL_dd n L.dropLast (by simp [hl]) c
    rw [← e, dd_snoc]
    generalize L.dropLast = M at ih
    generalize L.getLast hne = d
    by_cases hd : d ∈ M
    · rw [if_pos hd, ih]
      by_cases hc : c ∈ M
      · rw [if_pos hc, if_pos (List.mem_append_left _ hc)]
      · rw [if_neg hc, if_neg (fun h0 => by
          rcases List.mem_append.1 h0 with h0 | h0
          · exact hc h0
          · rw [List.mem_singleton] at h0; subst h0; exact hc hd)]
    · rw [if_neg hd, cntL_append, ih]
      simp only [cntL]
      by_cases hc : c ∈ M
      · rw [if_pos hc, if_pos (List.mem_append_left _ hc), if_neg (fun h0 : d = c => hd (by rw [h0]; exact hc))]; omega
      · by_cases hdc : d = c
        · rw [if_neg hc, if_pos hdc, if_pos (List.mem_append_right _ (by rw [hdc]; exact List.mem_singleton_self _))]; omega
        · rw [if_neg hc, if_neg hdc, if_neg (fun h0 => by
            rcases List.mem_append.1 h0 with h0 | h0
            · exact hc h0
            · rw [List.mem_singleton] at h0; exact hdc h0.symm)]; omega
/-- How many of the paths have a cell. -/
def hasN (PT : Cel → List Cel) (c : Cel) (F : List Cel) : Int := tot (fun f => if c ∈ PT f then 1 else 0) F
theorem hasN_tot (PT : Cel → List Cel) (c : Cel) : ∀ F : List Cel, cntL (totL PT F) c = hasN PT c F
  | [] => rfl
  | f :: r => by
    have ih := hasN_tot PT c r
    simp only [totL, hasN, List.flatMap_cons, tot] at ih ⊢
    rw [cntL_append, cntL_dd _ _ rfl, ih]
theorem hasN_snoc (PT : Cel → List Cel) (c f : Cel) (F : List Cel) : hasN PT c (F ++ [f]) = hasN PT c F + if c ∈ PT f then 1 else 0 := by
  unfold hasN; rw [tot_snoc]
theorem hasN_bound (PT : Cel → List Cel) (c : Cel) : ∀ F : List Cel, 0 ≤ hasN PT c F ∧ hasN PT c F ≤ F.length
  | [] => ⟨Int.le_refl _, Int.le_refl _⟩
  | f :: r => by
    have := hasN_bound PT c r
    simp only [hasN, tot, List.length_cons] at this ⊢
    split <;> omega
theorem mostF_at (f : Cel → Int) : ∀ (n : Nat) (A : List Cel), A.length = n → ((mostF f A) = ((0, 0), 0) ∨ ((mostF f A).1 ∈ A ∧ f (mostF f A).1 = (mostF f A).2))
  | 0, A, hl => by obtain rfl := List.eq_nil_of_length_eq_zero hl; exact .inl rfl
  | n + 1, A, hl => by
    have hne : A ≠ [] := fun e => by rw [e] at hl; cases hl
    have e := List.dropLast_concat_getLast hne
    have ih := mostF_at f n A.dropLast (by simp [hl])
    rw [← e, mostF_snoc]
    split
    · exact .inr ⟨List.mem_append_right _ (List.mem_singleton_self _), rfl⟩
    · rcases ih with h0 | ⟨h0, h1⟩
      · exact .inl h0
      · exact .inr ⟨List.mem_append_left _ h0, h1⟩
end Go.DM

/- Moles told of: more plain facts. -/
set_option linter.unusedSimpArgs false
set_option linter.unusedVariables false
set_option maxHeartbeats 4000000
namespace Go.DM
set_option linter.unusedSectionVars false
variable [Tok]
open Go.IntWalk
variable {w h : Int} {g : Nat → Int} {cs : List S} {q : Nat → Int} {qs : List S}
/-! A list that is exchanged place by place. -/
def mixL (f f' : Cel → Int) (F : List Cel) (j : Nat) : List Int := (F.take j).map f ++ (F.drop j).map f'
theorem mixL_zero (f f' : Cel → Int) (F : List Cel) : mixL f f' F 0 = F.map f' := by simp [mixL]
theorem mixL_all (f f' : Cel → Int) (F : List Cel) {j : Nat} (h : F.length ≤ j) : mixL f f' F j = F.map f := by
  unfold mixL
  rw [List.take_of_length_le h, List.drop_eq_nil_of_le h]; simp
theorem mixL_len (f f' : Cel → Int) (F : List Cel) (j : Nat) : (mixL f f' F j).length = F.length := by
  simp [mixL]; omega
theorem dropC {F : List Cel} {j : Nat} (h : j < F.length) : F.drop j = gC F j :: F.drop (j + 1) := by
  rw [List.drop_eq_getElem_cons h]
  congr 1
  simp [gC, List.getD_eq_getElem?_getD, h]
theorem takeC {F : List Cel} {j : Nat} (h : j < F.length) : F.take (j + 1) = F.take j ++ [gC F j] := by
  rw [List.take_add_one, gC_get h]; rfl
theorem mixL_get {f f' : Cel → Int} {F : List Cel} {j : Nat} (h : j < F.length) : gI (mixL f f' F j) j = f' (gC F j) := by
  unfold mixL gI
  rw [dropC h, List.getD_eq_getElem?_getD, List.getElem?_append_right (by simp; omega)]
  simp [Nat.min_eq_left (Nat.le_of_lt h)]
theorem mixL_set {f f' : Cel → Int} {F : List Cel} {j : Nat} (h : j < F.length) : (mixL f f' F j).set j (f (gC F j)) = mixL f f' F (j + 1) := by
  unfold mixL
  rw [dropC h, takeC h, List.set_append_right _ _ (by simp; omega)]
  simp [Nat.min_eq_left (Nat.le_of_lt h)]
theorem mixL_skip {f f' : Cel → Int} {F : List Cel} {j : Nat} (h : j < F.length) (e : f (gC F j) = f' (gC F j)) : mixL f f' F (j + 1) = mixL f f' F j := by
  unfold mixL
  rw [dropC h, takeC h]
  simp only [List.map_append, List.map_cons, List.map_nil, e, List.append_assoc, List.cons_append, List.nil_append]
theorem gI_map {f : Cel → Int} {F : List Cel} {j : Nat} (h : j < F.length) : gI (F.map f) j = f (gC F j) := by
  unfold gI gC
  simp [List.getD_eq_getElem?_getD, h]
/-! The night of a trap. -/
theorem night_told {a b : Cel} (hc : nightCode w h g q a b = 0) {n : Nat} (hn : n ≤ 60) :
    ∃ nt nc : Int, nightRes (nightCode w h g q a b) (nightIdx w h g q qs a b) = ⟨[.s (.int .i64 nt), .s (.int .i64 nc)], []⟩ ∧ (nc = 0 ∨ nc = 6) ∧
      ∀ m : Nat, 1 ≤ m → m ≤ n → (((Mole.mk q qs a a).after w h g m).a = b → nc = 0 ∧ nt ≤ m) ∧ (nc = 0 → nt = m → ((Mole.mk q qs a a).after w h g m).a = b) := by
  have hi : nightIdx w h g q qs a b = idxOf (fun c => b.1 = c.1 ∧ b.2 = c.2) (((Mole.mk q qs a a).path w h g 60).drop 1) 0 := rfl
  have hg : ∀ j, j < 60 → (((Mole.mk q qs a a).path w h g 60).drop 1)[j]? = some ((Mole.mk q qs a a).after w h g (j + 1)).a := fun j hj => by
    rw [List.getElem?_drop, Nat.add_comm 1 j]; exact path_get _ 60 (j + 1) (by omega)
  unfold nightRes
  rw [if_pos hc, hi]
  rcases idxOf_spec (fun c => b.1 = c.1 ∧ b.2 = c.2) (((Mole.mk q qs a a).path w h g 60).drop 1) 0 (by omega) with ⟨e, hno⟩ | ⟨k, c, e, hk, hPc, hno⟩
  · rw [e, if_pos (by omega)]
    refine ⟨0, 6, rfl, .inr rfl, fun m h1 h2 => ⟨fun hb => ?_, fun h0 => by omega⟩⟩
    have := hno _ (List.mem_of_getElem? (hg (m - 1) (by omega)))
    rw [show m - 1 + 1 = m by omega, hb] at this
    exact absurd ⟨rfl, rfl⟩ this
  · rw [e, if_neg (by omega)]
    have hk60 : k < 60 := by
      have := (List.getElem?_eq_some_iff.1 hk).1
      rw [List.length_drop, Mole.path_length] at this
      omega
    refine ⟨_, 0, rfl, .inl rfl, fun m h1 h2 => ⟨fun hb => ⟨rfl, ?_⟩, fun _ hm => ?_⟩⟩
    · by_cases hlt : m - 1 < k
      · have hmem : ((Mole.mk q qs a a).after w h g m).a ∈ (((Mole.mk q qs a a).path w h g 60).drop 1).take k := by
          refine List.mem_of_getElem? (i := m - 1) ?_
          rw [List.getElem?_take_of_lt hlt, hg _ (by omega), show m - 1 + 1 = m by omega]
        have := hno _ hmem
        rw [hb] at this
        exact absurd ⟨rfl, rfl⟩ this
      · omega
    · have hkm : k = m - 1 := by omega
      rw [hkm, hg _ (by omega), show m - 1 + 1 = m by omega] at hk
      cases hk
      exact (Prod.ext hPc.1 hPc.2).symm
/-! The cell at which a mole is most often. -/
theorem most_told {a : Cel} {n : Nat} (hm : molesCode w h g q a (n : Nat) = 0) :
    ∃ sx sy ct ec : Int, mvRes w h g q qs a (n : Nat) = ⟨[.agg [.int .i8 sx, .int .i8 sy], .s (.int .i64 ct), .s (.int .i64 ec)], []⟩ ∧ (ec = 0 ∨ ec = 6) ∧ (ec = 0 ↔ 0 < n) ∧
      ∀ c ∈ ofKind w h g 0, cntL (((Mole.mk q qs a a).path w h g n).drop 1) c ≤ ct ∧ (ec = 0 → c.1 = sx → c.2 = sy → cntL (((Mole.mk q qs a a).path w h g n).drop 1) c = ct) := by
  unfold mvRes
  rw [if_pos hm]
  by_cases h0 : n = 0
  · subst h0
    refine ⟨0, 0, 0, 6, rfl, .inr rfl, by omega, fun c hc => ⟨?_, fun h => by omega⟩⟩
    simp [Mole.path, cntL]
  · rw [if_neg (by omega), Int.toNat_natCast]
    refine ⟨_, _, _, 0, rfl, .inl rfl, by omega, fun c hc => ?_⟩
    have hA := (List.mem_filter.1 hc).1
    have h1 := mostF_ge (cntL (((Mole.mk q qs a a).path w h g n).drop 1)) _ (allC w h) rfl c hA
    have h2 := cntL_b (((Mole.mk q qs a a).path w h g n).drop 1) c
    refine ⟨h1, fun _ e1 e2 => ?_⟩
    rcases mostF_at (cntL (((Mole.mk q qs a a).path w h g n).drop 1)) _ (allC w h) rfl with e | ⟨_, e⟩
    · rw [e] at h1 ⊢
      simp only at h1 ⊢
      omega
    · rw [← e]
      congr 1
      exact Prod.ext e1 e2
end Go.DM
