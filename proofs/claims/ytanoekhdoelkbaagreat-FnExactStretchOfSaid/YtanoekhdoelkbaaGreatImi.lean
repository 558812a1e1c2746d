/- Contracts: lists of fractions, loaded and stored. -/
import Derived.Test.YtanoekhdoelkbaaGreatImh
set_option linter.unusedSimpArgs false
set_option linter.unusedVariables false
namespace Go.Proofs.Qqz
open Go

section
variable (P : Program) (e : Env) (σ : St) (K : KT) {α : Type} (f : α → List AV)
theorem storeB_row (wd : Nat) (hw : ∀ x, (f x).length = wd) (hc : ∀ x, ∀ a ∈ f x, a.isCell = true) (hF : ∀ x, ∀ a ∈ f x, Flat a) (i : TI) (l : List α) (id r : Nat) (x : α) (h : r < l.length) :
    storeB i (some (f x)) (bl f wd l) id r 0 e σ K = (wd = i.cells ∧ K .any e (σ.put id (bl f wd (l.set r x)))) := by
  rw [bl, storeB_flat _ _ _ _ _ _ _ _ _ _ (by simpa using h) (by rw [hw]; omega)]
  have e1 : splice ((l.map f).getD r []) 0 (f x) = f x := by
    have e2 : (l.map f).getD r [] = f l[r] := by simp [List.getD, h]
    rw [e2]
    have e3 : (f l[r]).length ≤ 0 + (f x).length := by rw [hw, hw]; omega
    simp only [splice, List.take_zero, List.nil_append, List.drop_of_length_le e3, List.append_nil]
  rw [e1, ← List.map_set]
  simp only [bl, hw, eq_true (hc x), eq_true (hF x), true_and]
theorem appB_row (wd id len : Nat) (l : List α) (x : α) (row : List AV) (hx : row = f x) (ne : Prop) (j : TI) (h : len ≤ l.length) : appB (bl f wd l) id len [row] ne j e σ K = (wd = j.cells ∧ ne ∧ K (.os σ.n 0 (len + 1)) e ((σ.put id .dead).new (bl f wd (l.take len ++ [x])))) := by
  subst hx
  exact appB_bl e σ K f wd id len l [x] ne j h
end

/-- A fraction in a list. -/
def frRow (x : Fr) : List AV := [frA x]
theorem frRow_eq (x : Fr) : frRow x = [frA x] := rfl
@[go_sem] theorem isCell_frA (x : Fr) : (frA x).isCell = true := by
  match x with
  | none => rfl
  | some (n, d) => rfl
@[go_sem] theorem Flat_frA (x : Fr) : Flat (frA x) = True := by
  apply eq_true
  match x with
  | none => exact .lit
  | some (n, d) => exact .pa
@[go_sem] theorem nlV_frA (x : Fr) (k : Nat) : nlV k (frA x) = frA x := by
  match x with
  | none => cases k <;> rfl
  | some (n, d) => cases k <;> rfl
@[go_sem] theorem avCells_frA (x : Fr) : avCells (frA x) = some [frA x] := by
  match x with
  | none => rfl
  | some (n, d) => rfl
@[go_sem] theorem storeB_fr (e : Env) (σ : St) (K : KT) (i : TI) (l : List Fr) (id r : Nat) (x : Fr) (h : r < l.length) :
    storeB i (some [frA x]) (bl frRow 1 l) id r 0 e σ K = (1 = i.cells ∧ K .any e (σ.put id (bl frRow 1 (l.set r x)))) :=
  storeB_row e σ K frRow 1 (fun _ => rfl) (fun x a ha => by rw [List.mem_singleton.1 ha, isCell_frA]) (fun x a ha => by rw [List.mem_singleton.1 ha, Flat_frA]; trivial) i l id r x h
@[go_sem] theorem makeI_fr (n : Nat) : Blk.flat 1 (List.replicate n [.lit (.pointer none)]) = bl frRow 1 (List.replicate n none) := by simp [bl, frRow, frA]
@[go_sem] theorem frzU_frA (m : Nat) (σ : St) (u : Fu) (top : Bool) (x : Fr) : frzU m σ (.s u) top (frA x) = frA x := by
  match x with
  | none => rfl
  | some (n, d) => rfl

/-- A fraction as a value in a list, or a place not yet filled. -/
def ratRowO : Option RV → List AV
  | none => [.lit (.bool false), .lit (.slice none 0 0), .lit (.slice none 0 0)]
  | some r => ratRow r
theorem sl_ratRowO (l : List RV) : sl ratRowO (l.map some) = sl ratRow l := by simp [sl, ratRowO, Function.comp_def]
@[go_sem] theorem storeB_rat (e : Env) (σ : St) (K : KT) (i : TI) (l : List (Option RV)) (id r : Nat) (b : Bool) (m d : List Int) (h : r < l.length) :
    storeB i (some [.lit (.bool b), sl intRow m, sl intRow d]) (bl ratRowO 3 l) id r 0 e σ K = (3 = i.cells ∧ K .any e (σ.put id (bl ratRowO 3 (l.set r (some ⟨b, m, d⟩))))) :=
  storeB_row e σ K ratRowO 3 (fun x => by cases x <;> rfl) (fun x a ha => by cases x <;> simp [ratRowO, ratRow] at ha <;> rcases ha with rfl | rfl | rfl <;> rfl) (fun x a ha => by cases x <;> simp [ratRowO, ratRow] at ha <;> rcases ha with rfl | rfl | rfl <;> first | exact .lit | exact .ps) i l id r (some ⟨b, m, d⟩) h
@[go_sem] theorem makeI_rat (n : Nat) : Blk.flat 3 (List.replicate n [.lit (.bool false), .lit (.slice none 0 0), .lit (.slice none 0 0)]) = bl ratRowO 3 (List.replicate n none) := by simp [bl, ratRowO]

theorem take_set_step {α : Type} {L M : List α} {i : Nat} {x : α} (h : i < L.length) (hx : i < M.length) (hM : M[i] = x) (ht : L.take i = M.take i) : (L.set i x).take (i + 1) = M.take (i + 1) := by
  rw [List.take_succ_eq_append_getElem (by simpa using h), List.take_succ_eq_append_getElem hx]
  simp [List.take_set_of_le, ht, hM]

set_option maxRecDepth 100000 in
set_option maxHeartbeats 1000000 in
theorem loads_ok (v : List RV) (hv : v.length ≤ 2000000) (e : Env) (σ : St) (K : KT)
    (h : K (.tup (if v.all fun r => r.fr.isSome then [sl frRow (v.map RV.fr), .lit (.bool true)] else [.ps [], .lit (.bool false)])) e σ) : ACall Tryz.prog 105 [sl ratRow v] e σ K := by
  refine ACall.pureW Tryz.func105 rfl Tryz.ntmps105 Tryz.results105 rfl rfl rfl ?_
  simp -implicitDefEqProofs (disch := (first | omega | (simp only [go_sem] <;> omega) | fail)) only [go_sem, simprocAttr]
  refine Sat.loopW (fun (t : Nat) e' σ' => ∃ i k L, t = v.length - i ∧ i ≤ v.length ∧ e' 10 = sl ratRow v ∧ e' 11 = .lit (.int .i64 v.length) ∧ e' 12 = .lit (.int .i64 (i : Nat)) ∧ e' 4 = .os k 0 v.length ∧
    σ.n ≤ k ∧ k < σ'.n ∧ σ'.h k = bl frRow 1 L ∧ Old σ σ' ∧ L.length = v.length ∧ L.take i = (v.map RV.fr).take i ∧ (v.take i).all (fun r => r.fr.isSome) = true) (fun t => t) v.length rfl ?_ ?_
  · simp -implicitDefEqProofs (disch := (first | omega | (simp only [go_sem] <;> omega) | fail)) only [go_sem, simprocAttr]
    exact ⟨0, σ.n, List.replicate v.length none, by omega, by omega, rfl, rfl, by omega, by omega, by simp -implicitDefEqProofs (disch := (first | omega | (simp only [go_sem] <;> omega) | fail)) only [go_sem, simprocAttr], by simp, by simp, by simp⟩
  · rintro t e1 σ1 ⟨i, k, L, rfl, hi, h10, h11, h12, h4, hk, hkn, hB, hO, hL, hT, hA⟩
    by_cases hlt : i < v.length
    · have hlt' : (i : Int) < v.length := by omega
      have hx := getD_elem v i hlt default
      simp -implicitDefEqProofs (disch := (first | omega | (simp only [go_sem] <;> omega) | fail)) only [go_sem, simprocAttr, h10, h11, h12, h4, hlt', hx, ratRow_eq]
      refine callF.plain (load_ok v[i] _ _ _ ?_)
      have hset : (L.set i v[i].fr).getD i default = v[i].fr := by simp [List.getD, hL, hlt]
      simp -implicitDefEqProofs (disch := (first | omega | (simp only [go_sem] <;> omega) | fail)) only [go_sem, simprocAttr, h10, h11, h12, h4, hB, frRow_eq, hset]
      cases hfr : v[i].fr with
      | none =>
        have hno : ¬ (v.all fun r => r.fr.isSome) = true := by
          rw [List.all_eq_true]; intro hall
          have := hall _ (List.getElem_mem hlt)
          rw [hfr] at this; simp at this
        rw [if_neg hno] at h
        unfold frA
        simp -implicitDefEqProofs (disch := (first | omega | (simp only [go_sem] <;> omega) | fail)) only [go_sem, simprocAttr, hO]
        exact h
      | some x =>
        obtain ⟨n, d⟩ := x
        unfold frA ratP
        simp -implicitDefEqProofs (disch := (first | omega | (simp only [go_sem] <;> omega) | fail)) only [go_sem, simprocAttr, h10, h11, h12, h4, hO, wrap_i64]
        refine ⟨v.length - (i + 1), by omega, i + 1, k, L.set i (some (n, d)), rfl, by omega, rfl, rfl, hk, by omega, by simp -implicitDefEqProofs (disch := (first | omega | (simp only [go_sem] <;> omega) | fail)) only [go_sem, simprocAttr], by simpa using hL, ?_, ?_⟩
        · exact take_set_step (by omega) (by simpa using hlt) (by simpa using hfr) hT
        · rw [List.take_succ_eq_append_getElem hlt, List.all_append, hA]
          simp [hfr]
    · have hlt' : ¬ (i : Int) < v.length := by omega
      have hie : i = v.length := by omega
      subst hie
      rw [List.take_of_length_le (Nat.le_refl _)] at hA
      rw [List.take_of_length_le (by omega), List.take_of_length_le (by simp)] at hT
      rw [if_pos hA] at h
      subst hT
      simp -implicitDefEqProofs (disch := (first | omega | (simp only [go_sem] <;> omega) | fail)) only [go_sem, simprocAttr, h10, h11, h12, h4, hlt', hB, hO]
      rw [List.take_of_length_le (by simp)]
      exact h

set_option maxRecDepth 100000 in
set_option maxHeartbeats 1000000 in
theorem stores_ok (v : List Fr) (hok : ∀ x ∈ v, x.ok) (hv : v.length ≤ 2000000) (e : Env) (σ : St) (K : KT)
    (h : K (.tup (if v.all Option.isSome then [sl ratRow (v.map Fr.rv), .lit (.bool true)] else [.ps [], .lit (.bool false)])) e σ) : ACall Tryz.prog 54 [sl frRow v] e σ K := by
  refine ACall.pureW Tryz.func54 rfl Tryz.ntmps54 Tryz.results54 rfl rfl rfl ?_
  simp -implicitDefEqProofs (disch := (first | omega | (simp only [go_sem] <;> omega) | fail)) only [go_sem, simprocAttr]
  refine Sat.loopW (fun (t : Nat) e' σ' => ∃ i k L, t = v.length - i ∧ i ≤ v.length ∧ e' 10 = sl frRow v ∧ e' 11 = .lit (.int .i64 v.length) ∧ e' 12 = .lit (.int .i64 (i : Nat)) ∧ e' 4 = .os k 0 v.length ∧
    σ.n ≤ k ∧ k < σ'.n ∧ σ'.h k = bl ratRowO 3 L ∧ Old σ σ' ∧ L.length = v.length ∧ L.take i = ((v.map Fr.rv).map some).take i ∧ (v.take i).all Option.isSome = true) (fun t => t) v.length rfl ?_ ?_
  · simp -implicitDefEqProofs (disch := (first | omega | (simp only [go_sem] <;> omega) | fail)) only [go_sem, simprocAttr]
    exact ⟨0, σ.n, List.replicate v.length none, by omega, by omega, rfl, rfl, by omega, by omega, by simp -implicitDefEqProofs (disch := (first | omega | (simp only [go_sem] <;> omega) | fail)) only [go_sem, simprocAttr], by simp, by simp, by simp⟩
  · rintro t e1 σ1 ⟨i, k, L, rfl, hi, h10, h11, h12, h4, hk, hkn, hB, hO, hL, hT, hA⟩
    by_cases hlt : i < v.length
    · have hlt' : (i : Int) < v.length := by omega
      have hx := getD_elem v i hlt default
      cases hfr : v[i] with
      | none =>
        have hno : ¬ v.all Option.isSome = true := by
          rw [List.all_eq_true]; intro hall
          have := hall _ (List.getElem_mem hlt)
          rw [hfr] at this; simp at this
        rw [if_neg hno] at h
        have hx' : frRow (v.getD i default) = [.lit (.pointer none)] := by rw [hx, hfr]; rfl
        simp -implicitDefEqProofs (disch := (first | omega | (simp only [go_sem] <;> omega) | fail)) only [go_sem, simprocAttr, h10, h11, h12, h4, hlt', hx', hO]
        exact h
      | some x =>
        obtain ⟨n, d⟩ := x
        have hx' : frRow (v.getD i default) = [ratP n d] := by rw [hx, hfr]; rfl
        unfold ratP at hx'
        simp -implicitDefEqProofs (disch := (first | omega | (simp only [go_sem] <;> omega) | fail)) only [go_sem, simprocAttr, h10, h11, h12, h4, hlt', hx', hO]
        refine callF.plain (store_ok (some (n, d)) (by have := hok _ (List.getElem_mem hlt); rw [hfr] at this; exact this) _ _ _ ?_)
        unfold ratV
        simp -implicitDefEqProofs (disch := (first | omega | (simp only [go_sem] <;> omega) | fail)) only [go_sem, simprocAttr, h10, h11, h12, h4, hB, hO, wrap_i64]
        refine ⟨v.length - (i + 1), by omega, i + 1, k, L.set i (some (Fr.rv (some (n, d)))), rfl, by omega, rfl, rfl, hk, by omega, by simp -implicitDefEqProofs (disch := (first | omega | (simp only [go_sem] <;> omega) | fail)) only [go_sem, simprocAttr], by simpa using hL, ?_, ?_⟩
        · exact take_set_step (by omega) (by simpa using hlt) (by simp [hfr]) hT
        · rw [List.take_succ_eq_append_getElem hlt, List.all_append, hA]
          simp [hfr]
    · have hlt' : ¬ (i : Int) < v.length := by omega
      have hie : i = v.length := by omega
      subst hie
      rw [List.take_of_length_le (Nat.le_refl _)] at hA
      rw [List.take_of_length_le (by omega), List.take_of_length_le (by simp)] at hT
      rw [if_pos hA, ← sl_ratRowO] at h
      subst hT
      simp -implicitDefEqProofs (disch := (first | omega | (simp only [go_sem] <;> omega) | fail)) only [go_sem, simprocAttr, h10, h11, h12, h4, hlt', hB, hO]
      rw [List.take_of_length_le (by simp)]
      exact h
end Go.Proofs.Qqz
