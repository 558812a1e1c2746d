/- Contracts: structures, first part. -/
import Derived.Test.YtanoekhdoelkbaaGreatSpe
set_option linter.unusedSimpArgs false
set_option linter.unusedVariables false
namespace Go.Proofs.Qqz
open Go

theorem toList_loop (s : ByteArray) : ∀ (n i : Nat) (r : List UInt8), s.size - i = n → ByteArray.toList.loop s i r = r.reverse ++ s.data.toList.drop i := by
  intro n
  induction n with
  | zero =>
    intro i r h
    unfold ByteArray.toList.loop
    have h1 : ¬ i < s.size := by omega
    rw [if_neg h1, List.drop_of_length_le (by have : s.data.toList.length = s.size := rfl
                                              omega), List.append_nil]
  | succ n ih =>
    intro i r h
    unfold ByteArray.toList.loop
    have h1 : i < s.size := by omega
    rw [if_pos h1, ih (i + 1) _ (by omega)]
    have h2 : i < s.data.toList.length := by have : s.data.toList.length = s.size := rfl
                                             omega
    rw [List.drop_eq_getElem_cons h2, List.reverse_cons, List.append_assoc]
    congr 1
    simp only [List.singleton_append]
    congr 1
    simp [ByteArray.get!, Array.getElem!_eq_getD, h1]
theorem bytes_toList (s : ByteArray) : s.toList = s.data.toList := by
  unfold ByteArray.toList
  rw [toList_loop s _ 0 [] rfl]; rfl

/-- A joint, a member, a structure. -/
structure JV where
  name : ByteArray
  x : Int
  y : Int
  fixed : Bool
instance : Inhabited JV := ⟨⟨ByteArray.empty, 0, 0, false⟩⟩
structure MV where
  a : Int
  b : Int
  kind : Int
  deriving Inhabited
structure SV where
  joints : List JV
  members : List MV
def jointRow (j : JV) : List AV := [.lit (.string j.name), .lit (.int .i64 j.x), .lit (.int .i64 j.y), .lit (.bool j.fixed)]
theorem jointRow_eq (j : JV) : jointRow j = [.lit (.string j.name), .lit (.int .i64 j.x), .lit (.int .i64 j.y), .lit (.bool j.fixed)] := rfl
def jointV (j : JV) : AV := .agg [.lit (.string j.name), .lit (.int .i64 j.x), .lit (.int .i64 j.y), .lit (.bool j.fixed)]
def memRow (m : MV) : List AV := [.lit (.int .i64 m.a), .lit (.int .i64 m.b), .lit (.int .i64 m.kind)]
theorem memRow_eq (m : MV) : memRow m = [.lit (.int .i64 m.a), .lit (.int .i64 m.b), .lit (.int .i64 m.kind)] := rfl
def memV (m : MV) : AV := .agg [.lit (.int .i64 m.a), .lit (.int .i64 m.b), .lit (.int .i64 m.kind)]
def structV (s : SV) : AV := .agg [sl jointRow s.joints, sl memRow s.members]
def structP (s : SV) : AV := .pa [sl jointRow s.joints, sl memRow s.members] 0

set_option maxRecDepth 100000 in
set_option maxHeartbeats 1000000 in
theorem indexJoints_ok (F : Nat) (caps : List AV) (p : JV → Bool) (l : List JV) (hl : l.length ≤ 1000000000) (e : Env) (σ : St) (hcaps : caps.map (nlV 3) = caps) (hF : ∀ x ∈ l, ∀ (e : Env) (K : KT), K (.lit (.bool (p x))) e σ → ACall Tryz.prog F (jointV x :: caps) e σ K) (K : KT)
    (h : K (.lit (.int .i64 (idxZ p l))) e σ) : ACall Tryz.prog 154 [sl jointRow l, .clo F caps] e σ K := by
  refine ACall.pureW Tryz.func154 rfl Tryz.ntmps154 Tryz.results154 rfl rfl rfl ?_
  simp -implicitDefEqProofs (disch := (first | omega | (simp only [go_sem] <;> omega) | fail)) only [go_sem, simprocAttr]
  refine Sat.loopW (fun (t : Nat) e' σ' => ∃ i, t = l.length - i ∧ i ≤ l.length ∧ e' 0 = sl jointRow l ∧ e' 1 = .clo F caps ∧ e' 7 = .lit (.int .i64 l.length) ∧ e' 8 = .lit (.int .i64 (i : Nat)) ∧ l.findIdx? p = ((l.drop i).findIdx? p).map (· + i) ∧ σ' = σ) (fun t => t) l.length rfl ⟨0, by omega, by omega, rfl, rfl, rfl, rfl, idx_start p l, rfl⟩ ?_
  rintro t e1 σ1 ⟨i, rfl, hi, h0, h1, h7, h8, hf, rfl⟩
  by_cases hlt : i < l.length
  · have hlt' : (i : Int) < l.length := by omega
    have hx := getD_elem l i hlt default
    simp -implicitDefEqProofs (disch := (first | omega | (simp only [go_sem] <;> omega) | fail)) only [go_sem, simprocAttr, h0, h1, h7, h8, hlt', hx, jointRow_eq]
    refine callF.plain ?_
    refine ACall.eq_args (l' := jointV l[i] :: caps) (by simp only [List.map_append, hcaps, List.map_cons, List.map_nil, List.cons_append, List.nil_append]; rfl) ?_
    refine hF _ (List.getElem_mem hlt) _ _ ?_
    by_cases hp : p l[i] = true
    · simp -implicitDefEqProofs (disch := (first | omega | (simp only [go_sem] <;> omega) | fail)) only [go_sem, simprocAttr, hp]
      rw [idx_hit hlt hp hf] at h
      exact h
    · have hp' : p l[i] = false := by simpa using hp
      simp -implicitDefEqProofs (disch := (first | omega | (simp only [go_sem] <;> omega) | fail)) only [go_sem, simprocAttr, hp', wrap_i64, h8, h7, h0, h1]
      refine ⟨l.length - (i + 1), by omega, i + 1, rfl, by omega, rfl, ?_⟩
      rw [hf]; exact findIdx_drop p l i hlt hp'
  · have hlt' : ¬ (i : Int) < l.length := by omega
    simp -implicitDefEqProofs (disch := (first | omega | (simp only [go_sem] <;> omega) | fail)) only [go_sem, simprocAttr, h0, h1, h7, h8, hlt']
    rw [idx_end hlt hf] at h
    exact h

set_option maxRecDepth 100000 in
set_option maxHeartbeats 1000000 in
theorem indexMembers_ok (F : Nat) (caps : List AV) (p : MV → Bool) (l : List MV) (hl : l.length ≤ 1000000000) (e : Env) (σ : St) (hcaps : caps.map (nlV 3) = caps) (hF : ∀ x ∈ l, ∀ (e : Env) (K : KT), K (.lit (.bool (p x))) e σ → ACall Tryz.prog F (memV x :: caps) e σ K) (K : KT)
    (h : K (.lit (.int .i64 (idxZ p l))) e σ) : ACall Tryz.prog 156 [sl memRow l, .clo F caps] e σ K := by
  refine ACall.pureW Tryz.func156 rfl Tryz.ntmps156 Tryz.results156 rfl rfl rfl ?_
  simp -implicitDefEqProofs (disch := (first | omega | (simp only [go_sem] <;> omega) | fail)) only [go_sem, simprocAttr]
  refine Sat.loopW (fun (t : Nat) e' σ' => ∃ i, t = l.length - i ∧ i ≤ l.length ∧ e' 0 = sl memRow l ∧ e' 1 = .clo F caps ∧ e' 7 = .lit (.int .i64 l.length) ∧ e' 8 = .lit (.int .i64 (i : Nat)) ∧ l.findIdx? p = ((l.drop i).findIdx? p).map (· + i) ∧ σ' = σ) (fun t => t) l.length rfl ⟨0, by omega, by omega, rfl, rfl, rfl, rfl, idx_start p l, rfl⟩ ?_
  rintro t e1 σ1 ⟨i, rfl, hi, h0, h1, h7, h8, hf, rfl⟩
  by_cases hlt : i < l.length
  · have hlt' : (i : Int) < l.length := by omega
    have hx := getD_elem l i hlt default
    simp -implicitDefEqProofs (disch := (first | omega | (simp only [go_sem] <;> omega) | fail)) only [go_sem, simprocAttr, h0, h1, h7, h8, hlt', hx, memRow_eq]
    refine callF.plain ?_
    refine ACall.eq_args (l' := memV l[i] :: caps) (by simp only [List.map_append, hcaps, List.map_cons, List.map_nil, List.cons_append, List.nil_append]; rfl) ?_
    refine hF _ (List.getElem_mem hlt) _ _ ?_
    by_cases hp : p l[i] = true
    · simp -implicitDefEqProofs (disch := (first | omega | (simp only [go_sem] <;> omega) | fail)) only [go_sem, simprocAttr, hp]
      rw [idx_hit hlt hp hf] at h
      exact h
    · have hp' : p l[i] = false := by simpa using hp
      simp -implicitDefEqProofs (disch := (first | omega | (simp only [go_sem] <;> omega) | fail)) only [go_sem, simprocAttr, hp', wrap_i64, h8, h7, h0, h1]
      refine ⟨l.length - (i + 1), by omega, i + 1, rfl, by omega, rfl, ?_⟩
      rw [hf]; exact findIdx_drop p l i hlt hp'
  · have hlt' : ¬ (i : Int) < l.length := by omega
    simp -implicitDefEqProofs (disch := (first | omega | (simp only [go_sem] <;> omega) | fail)) only [go_sem, simprocAttr, h0, h1, h7, h8, hlt']
    rw [idx_end hlt hf] at h
    exact h

set_option maxRecDepth 100000 in
set_option maxHeartbeats 1000000 in
theorem containsMembers_ok (F : Nat) (caps : List AV) (p : MV → Bool) (l : List MV) (hl : l.length ≤ 1000000000) (e : Env) (σ : St) (hcaps : caps.map (nlV 3) = caps) (hF : ∀ x ∈ l, ∀ (e : Env) (K : KT), K (.lit (.bool (p x))) e σ → ACall Tryz.prog F (memV x :: caps) e σ K) (K : KT)
    (h : K (.lit (.bool (l.any p))) e σ) : ACall Tryz.prog 125 [sl memRow l, .clo F caps] e σ K := by
  refine ACall.pureW Tryz.func125 rfl Tryz.ntmps125 Tryz.results125 rfl rfl rfl ?_
  simp -implicitDefEqProofs (disch := (first | omega | (simp only [go_sem] <;> omega) | fail)) only [go_sem, simprocAttr]
  refine callF.plain ?_
  refine ACall.eq_args (l' := [sl memRow l, .clo F caps]) (by simp -implicitDefEqProofs (disch := (first | omega | (simp only [go_sem] <;> omega) | fail)) only [go_sem, simprocAttr]) ?_
  refine indexMembers_ok F caps p l hl _ _ hcaps hF _ ?_
  rw [← idxZ_ge] at h
  simp -implicitDefEqProofs (disch := (first | omega | (simp only [go_sem] <;> omega) | fail)) only [go_sem, simprocAttr]
  exact h


/-! Names -/
def byteZ (s : ByteArray) (i : Nat) : Int := ((s.data.toList.getD i 0).toNat : Int)
def chOk (i : Nat) (c : Int) : Bool := (decide (97 ≤ c) && decide (c ≤ 122)) || (!decide (i = 0) && (decide (48 ≤ c) && decide (c ≤ 57)))
def nameOkB (s : ByteArray) : Bool := ((List.range s.size).all fun i => chOk i (byteZ s i)) && decide (1 ≤ s.size) && decide (s.size ≤ 8)
theorem range_all_false {n i : Nat} {p : Nat → Bool} (h : i < n) (hp : p i = false) : (List.range n).all p = false := by
  rw [List.all_eq_false]; exact ⟨i, List.mem_range.2 h, by simp [hp]⟩
theorem range_all_true {n : Nat} {p : Nat → Bool} (h : ∀ i, i < n → p i = true) : (List.range n).all p = true := by
  rw [List.all_eq_true]; intro i hi; exact h i (List.mem_range.1 hi)

set_option maxRecDepth 100000 in
set_option maxHeartbeats 1000000 in
theorem isLetter_ok (c : Int) (e : Env) (σ : St) (K : KT) (h : K (.lit (.bool (decide (97 ≤ c) && decide (c ≤ 122)))) e σ) : ACall Tryz.prog 172 [.lit (.int .u8 c)] e σ K := by
  refine ACall.pureW Tryz.func172 rfl Tryz.ntmps172 Tryz.results172 rfl rfl rfl ?_
  by_cases h0 : 97 ≤ c
  · by_cases h1 : c ≤ 122
    · simp -implicitDefEqProofs (disch := (first | omega | (simp only [go_sem] <;> omega) | fail)) only [go_sem, simprocAttr, h0, h1]
      simp [h0, h1] at h
      exact h
    · simp -implicitDefEqProofs (disch := (first | omega | (simp only [go_sem] <;> omega) | fail)) only [go_sem, simprocAttr, h0, h1]
      simp [h0, h1] at h
      exact h
  · simp -implicitDefEqProofs (disch := (first | omega | (simp only [go_sem] <;> omega) | fail)) only [go_sem, simprocAttr, h0]
    simp [h0] at h
    exact h
set_option maxRecDepth 100000 in
set_option maxHeartbeats 1000000 in
theorem isDigit_ok (c : Int) (e : Env) (σ : St) (K : KT) (h : K (.lit (.bool (decide (48 ≤ c) && decide (c ≤ 57)))) e σ) : ACall Tryz.prog 173 [.lit (.int .u8 c)] e σ K := by
  refine ACall.pureW Tryz.func173 rfl Tryz.ntmps173 Tryz.results173 rfl rfl rfl ?_
  by_cases h0 : 48 ≤ c
  · by_cases h1 : c ≤ 57
    · simp -implicitDefEqProofs (disch := (first | omega | (simp only [go_sem] <;> omega) | fail)) only [go_sem, simprocAttr, h0, h1]
      simp [h0, h1] at h
      exact h
    · simp -implicitDefEqProofs (disch := (first | omega | (simp only [go_sem] <;> omega) | fail)) only [go_sem, simprocAttr, h0, h1]
      simp [h0, h1] at h
      exact h
  · simp -implicitDefEqProofs (disch := (first | omega | (simp only [go_sem] <;> omega) | fail)) only [go_sem, simprocAttr, h0]
    simp [h0] at h
    exact h
set_option maxRecDepth 100000 in
set_option maxHeartbeats 1000000 in
theorem isPlace_ok (c : Int) (e : Env) (σ : St) (K : KT) (h : K (.lit (.bool (decide (-50 ≤ c) && decide (c ≤ 50)))) e σ) : ACall Tryz.prog 153 [.lit (.int .i64 c)] e σ K := by
  refine ACall.pureW Tryz.func153 rfl Tryz.ntmps153 Tryz.results153 rfl rfl rfl ?_
  by_cases h0 : -50 ≤ c
  · by_cases h1 : c ≤ 50
    · simp -implicitDefEqProofs (disch := (first | omega | (simp only [go_sem] <;> omega) | fail)) only [go_sem, simprocAttr, h0, h1]
      simp [h0, h1] at h
      exact h
    · simp -implicitDefEqProofs (disch := (first | omega | (simp only [go_sem] <;> omega) | fail)) only [go_sem, simprocAttr, h0, h1]
      simp [h0, h1] at h
      exact h
  · simp -implicitDefEqProofs (disch := (first | omega | (simp only [go_sem] <;> omega) | fail)) only [go_sem, simprocAttr, h0]
    simp [h0] at h
    exact h

set_option maxRecDepth 100000 in
set_option maxHeartbeats 1000000 in
theorem isName_ok (s : ByteArray) (hs : s.size ≤ 1000000000) (e : Env) (σ : St) (K : KT) (h : K (.lit (.bool (nameOkB s))) e σ) : ACall Tryz.prog 152 [.lit (.string s)] e σ K := by
  refine ACall.pureW Tryz.func152 rfl Tryz.ntmps152 Tryz.results152 rfl rfl rfl ?_
  unfold nameOkB at h
  simp -implicitDefEqProofs (disch := (first | omega | (simp only [go_sem] <;> omega) | fail)) only [go_sem, simprocAttr]
  refine Sat.loopW (fun (t : Nat) e' σ' => ∃ i, t = s.size - i ∧ i ≤ s.size ∧ e' 0 = .lit (.string s) ∧ e' 5 = .lit (.int .i64 s.size) ∧ e' 6 = .lit (.int .i64 (i : Nat)) ∧ (∀ j, j < i → chOk j (byteZ s j) = true) ∧ σ' = σ) (fun t => t) s.size rfl ⟨0, by omega, by omega, rfl, rfl, rfl, by omega, rfl⟩ ?_
  rintro t e1 σ1 ⟨i, rfl, hi, h0, h5, h6, hA, rfl⟩
  by_cases hlt : i < s.size
  · have hlt' : (i : Int) < s.size := by omega
    have hb : ((s.data.toList.getD i 0).toNat : Int) = byteZ s i := rfl
    simp -implicitDefEqProofs (disch := (first | omega | (simp only [go_sem] <;> omega) | fail)) only [go_sem, simprocAttr, h0, h5, h6, hlt', hb]
    refine callF.plain (isLetter_ok _ _ _ _ ?_)
    cases hl : (decide (97 ≤ byteZ s i) && decide (byteZ s i ≤ 122)) with
    | true =>
      simp -implicitDefEqProofs (disch := (first | omega | (simp only [go_sem] <;> omega) | fail)) only [go_sem, simprocAttr, h0, h5, h6, wrap_i64]
      refine ⟨s.size - (i + 1), by omega, i + 1, rfl, by omega, rfl, fun j hj => ?_⟩
      by_cases hji : j = i
      · subst hji; unfold chOk; rw [hl]; rfl
      · exact hA j (by omega)
    | false =>
      by_cases hz : i = 0
      · have hz' : (i : Int) = 0 := by omega
        have hbad : chOk i (byteZ s i) = false := by unfold chOk; rw [hl, decide_eq_true hz]; rfl
        rw [range_all_false hlt hbad] at h
        simp -implicitDefEqProofs (disch := (first | omega | (simp only [go_sem] <;> omega) | fail)) only [go_sem, simprocAttr, h0, h5, h6, hz']
        exact h
      · have hz' : ¬ (i : Int) = 0 := by omega
        simp -implicitDefEqProofs (disch := (first | omega | (simp only [go_sem] <;> omega) | fail)) only [go_sem, simprocAttr, h0, h5, h6, hz', hlt', hb]
        refine callF.plain (isDigit_ok _ _ _ _ ?_)
        cases hd : (decide (48 ≤ byteZ s i) && decide (byteZ s i ≤ 57)) with
        | true =>
          simp -implicitDefEqProofs (disch := (first | omega | (simp only [go_sem] <;> omega) | fail)) only [go_sem, simprocAttr, h0, h5, h6, wrap_i64]
          refine ⟨s.size - (i + 1), by omega, i + 1, rfl, by omega, rfl, fun j hj => ?_⟩
          by_cases hji : j = i
          · subst hji; unfold chOk; rw [hl, hd, decide_eq_false hz]; rfl
          · exact hA j (by omega)
        | false =>
          have hbad : chOk i (byteZ s i) = false := by unfold chOk; rw [hl, hd, decide_eq_false hz]; rfl
          rw [range_all_false hlt hbad] at h
          simp -implicitDefEqProofs (disch := (first | omega | (simp only [go_sem] <;> omega) | fail)) only [go_sem, simprocAttr, h0, h5, h6]
          exact h
  · have hlt' : ¬ (i : Int) < s.size := by omega
    have hall := range_all_true (n := s.size) (p := fun i => chOk i (byteZ s i)) (fun j hj => hA j (by omega))
    rw [hall] at h
    have hlen : s.data.toList.length = s.size := rfl
    by_cases hz : s.size = 0
    · have hnil : s.toList = ByteArray.toList ⟨#[]⟩ := by
        rw [bytes_toList, bytes_toList]
        exact List.eq_nil_of_length_eq_zero (by omega)
      simp -implicitDefEqProofs (disch := (first | omega | (simp only [go_sem] <;> omega) | fail)) only [go_sem, simprocAttr, h0, h5, h6, hlt', hnil]
      simp [hz] at h
      exact h
    · have hnil : ¬ s.toList = ByteArray.toList ⟨#[]⟩ := by
        rw [bytes_toList, bytes_toList]
        intro h; apply hz; rw [← hlen, h]; rfl
      have hz1 : 1 ≤ s.size := by omega
      by_cases h8 : s.size ≤ 8
      · have h8' : (s.size : Int) ≤ 8 := by omega
        simp -implicitDefEqProofs (disch := (first | omega | (simp only [go_sem] <;> omega) | fail)) only [go_sem, simprocAttr, h0, h5, h6, hlt', hnil, h8']
        simp [hz1, h8] at h
        exact h
      · have h8' : ¬ (s.size : Int) ≤ 8 := by omega
        simp -implicitDefEqProofs (disch := (first | omega | (simp only [go_sem] <;> omega) | fail)) only [go_sem, simprocAttr, h0, h5, h6, hlt', hnil, h8']
        simp [hz1, h8] at h
        exact h
end Go.Proofs.Qqz
