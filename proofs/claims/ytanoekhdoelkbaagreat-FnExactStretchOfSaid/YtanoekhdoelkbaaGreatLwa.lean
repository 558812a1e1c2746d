/- Contracts: the laws' copies and comparisons. -/
import Derived.Test.YtanoekhdoelkbaaGreatSth
set_option linter.unusedSimpArgs false
set_option linter.unusedVariables false
namespace Go.Proofs.Qqz
open Go

@[go_sem] theorem storeB_joint (e : Env) (σ : St) (K : KT) (i : TI) (l : List JV) (id r : Nat) (s : ByteArray) (x y : Int) (b : Bool) (h : r < l.length) :
    storeB i (some [.lit (.string s), .lit (.int .i64 x), .lit (.int .i64 y), .lit (.bool b)]) (bl jointRow 4 l) id r 0 e σ K = (4 = i.cells ∧ K .any e (σ.put id (bl jointRow 4 (l.set r ⟨s, x, y, b⟩)))) :=
  storeB_row e σ K jointRow 4 (fun x => rfl) (fun x a ha => by simp [jointRow] at ha; rcases ha with rfl | rfl | rfl | rfl <;> rfl) (fun x a ha => by simp [jointRow] at ha; rcases ha with rfl | rfl | rfl | rfl <;> exact .lit) i l id r ⟨s, x, y, b⟩ h
@[go_sem] theorem makeI_joint (n : Nat) : Blk.flat 4 (List.replicate n [.lit (.string ⟨#[]⟩), .lit (.int .i64 0), .lit (.int .i64 0), .lit (.bool false)]) = bl jointRow 4 (List.replicate n ⟨⟨#[]⟩, 0, 0, false⟩) := by simp [bl, jointRow]
@[go_sem] theorem storeB_mem (e : Env) (σ : St) (K : KT) (i : TI) (l : List MV) (id r : Nat) (x y z : Int) (h : r < l.length) :
    storeB i (some [.lit (.int .i64 x), .lit (.int .i64 y), .lit (.int .i64 z)]) (bl memRow 3 l) id r 0 e σ K = (3 = i.cells ∧ K .any e (σ.put id (bl memRow 3 (l.set r ⟨x, y, z⟩)))) :=
  storeB_row e σ K memRow 3 (fun x => rfl) (fun x a ha => by simp [memRow] at ha; rcases ha with rfl | rfl | rfl <;> rfl) (fun x a ha => by simp [memRow] at ha; rcases ha with rfl | rfl | rfl <;> exact .lit) i l id r ⟨x, y, z⟩ h
@[go_sem] theorem makeI_mem (n : Nat) : Blk.flat 3 (List.replicate n [.lit (.int .i64 0), .lit (.int .i64 0), .lit (.int .i64 0)]) = bl memRow 3 (List.replicate n ⟨0, 0, 0⟩) := by simp [bl, memRow]

set_option maxRecDepth 100000 in
set_option maxHeartbeats 1000000 in
theorem toInts_ok (l : List Int) (hl : l.length ≤ 2000000) (e : Env) (σ : St) (K : KT) (h : K (ints l) e σ) : ACall Tryz.prog 22 [ints l] e σ K := by
  refine ACall.pureW Tryz.func22 rfl Tryz.ntmps22 Tryz.results22 rfl rfl rfl ?_
  simp -implicitDefEqProofs (disch := (first | omega | (simp only [go_sem] <;> omega) | fail)) only [go_sem, simprocAttr]
  refine Sat.loopW (fun (t : Nat) e' σ' => ∃ (i k : Nat) (L : List Int), t = l.length - i ∧ i ≤ l.length ∧ e' 0 = sl intRow l ∧ e' 3 = .os k 0 l.length ∧ e' 4 = .lit (.int .i64 (i : Nat)) ∧
    σ.n ≤ k ∧ k < σ'.n ∧ σ'.h k = bl intRow 1 L ∧ Old σ σ' ∧ L.length = l.length ∧ L.take i = l.take i) (fun t => t) l.length rfl ?_ ?_
  · simp -implicitDefEqProofs (disch := (first | omega | (simp only [go_sem] <;> omega) | fail)) only [go_sem, simprocAttr]
    exact ⟨0, σ.n, List.replicate l.length 0, by omega, by omega, rfl, rfl, by omega, by omega, by simp -implicitDefEqProofs (disch := (first | omega | (simp only [go_sem] <;> omega) | fail)) only [go_sem, simprocAttr], by simp, by simp⟩
  rintro t e1 σ1 ⟨i, k, L, rfl, hi, h0, h3, h4, hk, hkn, hB, hO, hL, hT⟩
  by_cases hlt : i < l.length
  · have hlt' : (i : Int) < l.length := by omega
    have hx := getD_elem l i hlt 0
    simp -implicitDefEqProofs (disch := (first | omega | (simp only [go_sem] <;> omega) | fail)) only [go_sem, simprocAttr, h0, h3, h4, hlt', getD_int, hx, hB, wrap_i64]
    refine ⟨l.length - (i + 1), by omega, i + 1, k, L.set i l[i], rfl, by omega, rfl, rfl, hk, by omega, by simp -implicitDefEqProofs (disch := (first | omega | (simp only [go_sem] <;> omega) | fail)) only [go_sem, simprocAttr], by simp -implicitDefEqProofs (disch := (first | omega | (simp only [go_sem] <;> omega) | fail)) only [go_sem, simprocAttr, hO], by simpa using hL, ?_⟩
    exact take_set_step (by omega) hlt rfl hT
  · have hlt' : ¬ (i : Int) < l.length := by omega
    have hie : i = l.length := by omega
    subst hie
    rw [List.take_of_length_le (by omega), List.take_of_length_le (by simp)] at hT
    subst hT
    simp -implicitDefEqProofs (disch := (first | omega | (simp only [go_sem] <;> omega) | fail)) only [go_sem, simprocAttr, h0, h3, h4, hlt', hB, hO]
    exact h

set_option maxRecDepth 100000 in
set_option maxHeartbeats 1000000 in
theorem toBig_ok (neg : Bool) (m : List Int) (hm : m.length ≤ 2000000) (e : Env) (σ : St) (K : KT) (h : K (.agg [.lit (.bool neg), ints m]) e σ) : ACall Tryz.prog 104 [.agg [.lit (.bool neg), ints m]] e σ K := by
  refine ACall.pureW Tryz.func104 rfl Tryz.ntmps104 Tryz.results104 rfl rfl rfl ?_
  simp -implicitDefEqProofs (disch := (first | omega | (simp only [go_sem] <;> omega) | fail)) only [go_sem, simprocAttr]
  refine callF.plain (toInts_ok m hm _ _ _ ?_)
  simp -implicitDefEqProofs (disch := (first | omega | (simp only [go_sem] <;> omega) | fail)) only [go_sem, simprocAttr]
  exact h

def toRat_pre (r : RV) : Prop := r.mag.length ≤ 2000000 ∧ r.den.length ≤ 2000000
set_option maxRecDepth 100000 in
set_option maxHeartbeats 1000000 in
theorem toRat_ok (r : RV) (hr : toRat_pre r) (e : Env) (σ : St) (K : KT) (h : K (ratV r) e σ) : ACall Tryz.prog 51 [ratV r] e σ K := by
  unfold ratV
  refine ACall.pureW Tryz.func51 rfl Tryz.ntmps51 Tryz.results51 rfl rfl rfl ?_
  simp -implicitDefEqProofs (disch := (first | omega | (simp only [go_sem] <;> omega) | fail)) only [go_sem, simprocAttr]
  refine callF.plain (toBig_ok r.neg r.mag hr.1 _ _ _ ?_)
  simp -implicitDefEqProofs (disch := (first | omega | (simp only [go_sem] <;> omega) | fail)) only [go_sem, simprocAttr]
  refine callF.plain (toInts_ok r.den hr.2 _ _ _ ?_)
  simp -implicitDefEqProofs (disch := (first | omega | (simp only [go_sem] <;> omega) | fail)) only [go_sem, simprocAttr]
  exact h

def toJoint_pre (_ : JV) : Prop := True
set_option maxRecDepth 100000 in
set_option maxHeartbeats 1000000 in
theorem toJoint_ok (j : JV) (_ : toJoint_pre j) (e : Env) (σ : St) (K : KT) (h : K (jointV j) e σ) : ACall Tryz.prog 102 [jointV j] e σ K := by
  unfold jointV
  refine ACall.pureW Tryz.func102 rfl Tryz.ntmps102 Tryz.results102 rfl rfl rfl ?_
  simp -implicitDefEqProofs (disch := (first | omega | (simp only [go_sem] <;> omega) | fail)) only [go_sem, simprocAttr]
  exact h
def toMem_pre (_ : MV) : Prop := True
set_option maxRecDepth 100000 in
set_option maxHeartbeats 1000000 in
theorem toMem_ok (m : MV) (_ : toMem_pre m) (e : Env) (σ : St) (K : KT) (h : K (memV m) e σ) : ACall Tryz.prog 103 [memV m] e σ K := by
  unfold memV
  refine ACall.pureW Tryz.func103 rfl Tryz.ntmps103 Tryz.results103 rfl rfl rfl ?_
  simp -implicitDefEqProofs (disch := (first | omega | (simp only [go_sem] <;> omega) | fail)) only [go_sem, simprocAttr]
  exact h

set_option maxRecDepth 100000 in
set_option maxHeartbeats 1000000 in
theorem toRats_ok (l : List RV) (hl : l.length ≤ 2000000) (hsh : ∀ x ∈ l, toRat_pre x) (e : Env) (σ : St) (K : KT) (h : K (sl ratRow l) e σ) : ACall Tryz.prog 14 [sl ratRow l] e σ K := by
  refine ACall.pureW Tryz.func14 rfl Tryz.ntmps14 Tryz.results14 rfl rfl rfl ?_
  simp -implicitDefEqProofs (disch := (first | omega | (simp only [go_sem] <;> omega) | fail)) only [go_sem, simprocAttr]
  refine Sat.loopW (fun (t : Nat) e' σ' => ∃ (i k : Nat) (L : List (Option RV)), t = l.length - i ∧ i ≤ l.length ∧ e' 0 = sl ratRow l ∧ e' 3 = .os k 0 l.length ∧ e' 4 = .lit (.int .i64 (i : Nat)) ∧
    σ.n ≤ k ∧ k < σ'.n ∧ σ'.h k = bl ratRowO 3 L ∧ Old σ σ' ∧ L.length = l.length ∧ L.take i = (l.map some).take i) (fun t => t) l.length rfl ?_ ?_
  · simp -implicitDefEqProofs (disch := (first | omega | (simp only [go_sem] <;> omega) | fail)) only [go_sem, simprocAttr]
    exact ⟨0, σ.n, List.replicate l.length none, by omega, by omega, rfl, rfl, by omega, by omega, by simp -implicitDefEqProofs (disch := (first | omega | (simp only [go_sem] <;> omega) | fail)) only [go_sem, simprocAttr], by simp, by simp⟩
  rintro t e1 σ1 ⟨i, k, L, rfl, hi, h0, h3, h4, hk, hkn, hB, hO, hL, hT⟩
  have hOn := hO.1
  by_cases hlt : i < l.length
  · have hlt' : (i : Int) < l.length := by omega
    have hx := getD_elem l i hlt default
    obtain ⟨x, hxe⟩ : ∃ x, l[i] = x := ⟨_, rfl⟩
    have hpre := hsh _ (List.getElem_mem hlt)
    rw [hxe] at hx hpre
    simp -implicitDefEqProofs (disch := (first | omega | (simp only [go_sem] <;> omega) | fail)) only [go_sem, simprocAttr, h0, h3, h4, hlt', hx, ratRow_eq]
    refine callF.plain (toRat_ok x hpre _ _ _ ?_)
    unfold ratV
    simp -implicitDefEqProofs (disch := (first | omega | (simp only [go_sem] <;> omega) | fail)) only [go_sem, simprocAttr, h0, h3, h4, hB, wrap_i64]
    refine ⟨l.length - (i + 1), by omega, i + 1, k, L.set i (some x), rfl, by omega, rfl, rfl, hk, by omega, by simp -implicitDefEqProofs (disch := (first | omega | (simp only [go_sem] <;> omega) | fail)) only [go_sem, simprocAttr], by simp -implicitDefEqProofs (disch := (first | omega | (simp only [go_sem] <;> omega) | fail)) only [go_sem, simprocAttr, hO], by simpa using hL, ?_⟩
    exact take_set_step (by omega) (by simpa using hlt) (by simp [hxe]) hT
  · have hlt' : ¬ (i : Int) < l.length := by omega
    have hie : i = l.length := by omega
    subst hie
    rw [List.take_of_length_le (by omega), List.take_of_length_le (by simp)] at hT
    subst hT
    simp -implicitDefEqProofs (disch := (first | omega | (simp only [go_sem] <;> omega) | fail)) only [go_sem, simprocAttr, h0, h3, h4, hlt', hB, hO, List.take_length]
    rw [← sl_ratRowO] at h
    first | exact h | (rw [List.take_of_length_le (by simp)]; exact h)

set_option maxRecDepth 100000 in
set_option maxHeartbeats 1000000 in
theorem toJoints_ok (l : List JV) (hl : l.length ≤ 2000000) (hsh : ∀ x ∈ l, toJoint_pre x) (e : Env) (σ : St) (K : KT) (h : K (sl jointRow l) e σ) : ACall Tryz.prog 49 [sl jointRow l] e σ K := by
  refine ACall.pureW Tryz.func49 rfl Tryz.ntmps49 Tryz.results49 rfl rfl rfl ?_
  simp -implicitDefEqProofs (disch := (first | omega | (simp only [go_sem] <;> omega) | fail)) only [go_sem, simprocAttr]
  refine Sat.loopW (fun (t : Nat) e' σ' => ∃ (i k : Nat) (L : List JV), t = l.length - i ∧ i ≤ l.length ∧ e' 0 = sl jointRow l ∧ e' 3 = .os k 0 l.length ∧ e' 4 = .lit (.int .i64 (i : Nat)) ∧
    σ.n ≤ k ∧ k < σ'.n ∧ σ'.h k = bl jointRow 4 L ∧ Old σ σ' ∧ L.length = l.length ∧ L.take i = l.take i) (fun t => t) l.length rfl ?_ ?_
  · simp -implicitDefEqProofs (disch := (first | omega | (simp only [go_sem] <;> omega) | fail)) only [go_sem, simprocAttr]
    exact ⟨0, σ.n, List.replicate l.length ⟨⟨#[]⟩, 0, 0, false⟩, by omega, by omega, rfl, rfl, by omega, by omega, by simp -implicitDefEqProofs (disch := (first | omega | (simp only [go_sem] <;> omega) | fail)) only [go_sem, simprocAttr], by simp, by simp⟩
  rintro t e1 σ1 ⟨i, k, L, rfl, hi, h0, h3, h4, hk, hkn, hB, hO, hL, hT⟩
  have hOn := hO.1
  by_cases hlt : i < l.length
  · have hlt' : (i : Int) < l.length := by omega
    have hx := getD_elem l i hlt default
    obtain ⟨x, hxe⟩ : ∃ x, l[i] = x := ⟨_, rfl⟩
    have hpre := hsh _ (List.getElem_mem hlt)
    rw [hxe] at hx hpre
    simp -implicitDefEqProofs (disch := (first | omega | (simp only [go_sem] <;> omega) | fail)) only [go_sem, simprocAttr, h0, h3, h4, hlt', hx, jointRow_eq]
    refine callF.plain (toJoint_ok x hpre _ _ _ ?_)
    unfold jointV
    simp -implicitDefEqProofs (disch := (first | omega | (simp only [go_sem] <;> omega) | fail)) only [go_sem, simprocAttr, h0, h3, h4, hB, wrap_i64]
    refine ⟨l.length - (i + 1), by omega, i + 1, k, L.set i x, rfl, by omega, rfl, rfl, hk, by omega, by simp -implicitDefEqProofs (disch := (first | omega | (simp only [go_sem] <;> omega) | fail)) only [go_sem, simprocAttr], by simp -implicitDefEqProofs (disch := (first | omega | (simp only [go_sem] <;> omega) | fail)) only [go_sem, simprocAttr, hO], by simpa using hL, ?_⟩
    exact take_set_step (by omega) (by simpa using hlt) (by simp [hxe]) hT
  · have hlt' : ¬ (i : Int) < l.length := by omega
    have hie : i = l.length := by omega
    subst hie
    rw [List.take_of_length_le (by omega), List.take_of_length_le (by simp)] at hT
    subst hT
    simp -implicitDefEqProofs (disch := (first | omega | (simp only [go_sem] <;> omega) | fail)) only [go_sem, simprocAttr, h0, h3, h4, hlt', hB, hO, List.take_length]
    skip
    first | exact h | (rw [List.take_of_length_le (by simp)]; exact h)

set_option maxRecDepth 100000 in
set_option maxHeartbeats 1000000 in
theorem toMems_ok (l : List MV) (hl : l.length ≤ 2000000) (hsh : ∀ x ∈ l, toMem_pre x) (e : Env) (σ : St) (K : KT) (h : K (sl memRow l) e σ) : ACall Tryz.prog 50 [sl memRow l] e σ K := by
  refine ACall.pureW Tryz.func50 rfl Tryz.ntmps50 Tryz.results50 rfl rfl rfl ?_
  simp -implicitDefEqProofs (disch := (first | omega | (simp only [go_sem] <;> omega) | fail)) only [go_sem, simprocAttr]
  refine Sat.loopW (fun (t : Nat) e' σ' => ∃ (i k : Nat) (L : List MV), t = l.length - i ∧ i ≤ l.length ∧ e' 0 = sl memRow l ∧ e' 3 = .os k 0 l.length ∧ e' 4 = .lit (.int .i64 (i : Nat)) ∧
    σ.n ≤ k ∧ k < σ'.n ∧ σ'.h k = bl memRow 3 L ∧ Old σ σ' ∧ L.length = l.length ∧ L.take i = l.take i) (fun t => t) l.length rfl ?_ ?_
  · simp -implicitDefEqProofs (disch := (first | omega | (simp only [go_sem] <;> omega) | fail)) only [go_sem, simprocAttr]
    exact ⟨0, σ.n, List.replicate l.length ⟨0, 0, 0⟩, by omega, by omega, rfl, rfl, by omega, by omega, by simp -implicitDefEqProofs (disch := (first | omega | (simp only [go_sem] <;> omega) | fail)) only [go_sem, simprocAttr], by simp, by simp⟩
  rintro t e1 σ1 ⟨i, k, L, rfl, hi, h0, h3, h4, hk, hkn, hB, hO, hL, hT⟩
  have hOn := hO.1
  by_cases hlt : i < l.length
  · have hlt' : (i : Int) < l.length := by omega
    have hx := getD_elem l i hlt default
    obtain ⟨x, hxe⟩ : ∃ x, l[i] = x := ⟨_, rfl⟩
    have hpre := hsh _ (List.getElem_mem hlt)
    rw [hxe] at hx hpre
    simp -implicitDefEqProofs (disch := (first | omega | (simp only [go_sem] <;> omega) | fail)) only [go_sem, simprocAttr, h0, h3, h4, hlt', hx, memRow_eq]
    refine callF.plain (toMem_ok x hpre _ _ _ ?_)
    unfold memV
    simp -implicitDefEqProofs (disch := (first | omega | (simp only [go_sem] <;> omega) | fail)) only [go_sem, simprocAttr, h0, h3, h4, hB, wrap_i64]
    refine ⟨l.length - (i + 1), by omega, i + 1, k, L.set i x, rfl, by omega, rfl, rfl, hk, by omega, by simp -implicitDefEqProofs (disch := (first | omega | (simp only [go_sem] <;> omega) | fail)) only [go_sem, simprocAttr], by simp -implicitDefEqProofs (disch := (first | omega | (simp only [go_sem] <;> omega) | fail)) only [go_sem, simprocAttr, hO], by simpa using hL, ?_⟩
    exact take_set_step (by omega) (by simpa using hlt) (by simp [hxe]) hT
  · have hlt' : ¬ (i : Int) < l.length := by omega
    have hie : i = l.length := by omega
    subst hie
    rw [List.take_of_length_le (by omega), List.take_of_length_le (by simp)] at hT
    subst hT
    simp -implicitDefEqProofs (disch := (first | omega | (simp only [go_sem] <;> omega) | fail)) only [go_sem, simprocAttr, h0, h3, h4, hlt', hB, hO, List.take_length]
    skip
    first | exact h | (rw [List.take_of_length_le (by simp)]; exact h)

set_option maxRecDepth 100000 in
set_option maxHeartbeats 1000000 in
theorem toStruct_ok (v : SV) (h1 : v.joints.length ≤ 2000000) (h2 : v.members.length ≤ 2000000) (e : Env) (σ : St) (K : KT) (h : K (structV v) e σ) : ACall Tryz.prog 13 [structV v] e σ K := by
  unfold structV
  refine ACall.pureW Tryz.func13 rfl Tryz.ntmps13 Tryz.results13 rfl rfl rfl ?_
  simp -implicitDefEqProofs (disch := (first | omega | (simp only [go_sem] <;> omega) | fail)) only [go_sem, simprocAttr]
  refine callF.plain (toJoints_ok v.joints h1 (fun _ _ => trivial) _ _ _ ?_)
  simp -implicitDefEqProofs (disch := (first | omega | (simp only [go_sem] <;> omega) | fail)) only [go_sem, simprocAttr]
  refine callF.plain (toMems_ok v.members h2 (fun _ _ => trivial) _ _ _ ?_)
  simp -implicitDefEqProofs (disch := (first | omega | (simp only [go_sem] <;> omega) | fail)) only [go_sem, simprocAttr]
  exact h

set_option maxRecDepth 100000 in
set_option maxHeartbeats 1000000 in
theorem eqInts_ok (l : List Int) (hl : l.length ≤ 2000000) (e : Env) (σ : St) (K : KT) (h : K (.lit (.bool true)) e σ) : ACall Tryz.prog 24 [sl intRow l, sl intRow l] e σ K := by
  refine ACall.pureW Tryz.func24 rfl Tryz.ntmps24 Tryz.results24 rfl rfl rfl ?_
  simp -implicitDefEqProofs (disch := (first | omega | (simp only [go_sem] <;> omega) | fail)) only [go_sem, simprocAttr]
  refine Sat.loopW (fun (t : Nat) e' σ' => ∃ i : Nat, t = l.length - i ∧ i ≤ l.length ∧ e' 0 = sl intRow l ∧ e' 1 = sl intRow l ∧ e' 5 = .lit (.int .i64 (i : Nat)) ∧ Old σ σ') (fun t => t) l.length rfl ?_ ?_
  · simp -implicitDefEqProofs (disch := (first | omega | (simp only [go_sem] <;> omega) | fail)) only [go_sem, simprocAttr]
    exact ⟨0, by omega, by omega, rfl⟩
  rintro t e1 σ1 ⟨i, rfl, hi, h0, h1, h5, hO⟩
  have hOn := hO.1
  by_cases hlt : i < l.length
  · have hlt' : (i : Int) < l.length := by omega
    have hx := getD_elem l i hlt 0
    obtain ⟨x, hxe⟩ : ∃ x, l[i] = x := ⟨_, rfl⟩
    rw [hxe] at hx
    simp -implicitDefEqProofs (disch := (first | omega | (simp only [go_sem] <;> omega) | fail)) only [go_sem, simprocAttr, h0, h1, h5, hlt']
    refine Sat.drawn0 [] mixed (by kernel_rfl) ?_
    simp -implicitDefEqProofs (disch := (first | omega | (simp only [go_sem] <;> omega) | fail)) only [go_sem, simprocAttr, h0, h1, h5, hlt', hx, getD_int]
    skip
    simp -implicitDefEqProofs (disch := (first | omega | (simp only [go_sem] <;> omega) | fail)) only [go_sem, simprocAttr, h0, h1, h5, wrap_i64]
    exact ⟨l.length - (i + 1), by omega, i + 1, rfl, by omega, rfl, by first | exact hO | simp -implicitDefEqProofs (disch := (first | omega | (simp only [go_sem] <;> omega) | fail)) only [go_sem, simprocAttr, hO]⟩
  · have hlt' : ¬ (i : Int) < l.length := by omega
    simp -implicitDefEqProofs (disch := (first | omega | (simp only [go_sem] <;> omega) | fail)) only [go_sem, simprocAttr, h0, h1, h5, hlt', hO]
    exact h

set_option maxRecDepth 100000 in
set_option maxHeartbeats 1000000 in
theorem eqBig_ok (neg : Bool) (m : List Int) (hm : m.length ≤ 2000000) (e : Env) (σ : St) (K : KT) (h : K (.lit (.bool true)) e σ) : ACall Tryz.prog 89 [.agg [.lit (.bool neg), ints m], .agg [.lit (.bool neg), ints m]] e σ K := by
  have hb : (neg == neg) = true := by simp
  refine ACall.pureW Tryz.func89 rfl Tryz.ntmps89 Tryz.results89 rfl rfl rfl ?_
  simp -implicitDefEqProofs (disch := (first | omega | (simp only [go_sem] <;> omega) | fail)) only [go_sem, simprocAttr, hb]
  refine callF.plain (eqInts_ok m hm _ _ _ ?_)
  simp -implicitDefEqProofs (disch := (first | omega | (simp only [go_sem] <;> omega) | fail)) only [go_sem, simprocAttr]
  exact h

set_option maxRecDepth 100000 in
set_option maxHeartbeats 1000000 in
theorem eqRat_ok (r : RV) (hr : toRat_pre r) (e : Env) (σ : St) (K : KT) (h : K (.lit (.bool true)) e σ) : ACall Tryz.prog 36 [ratV r, ratV r] e σ K := by
  unfold ratV
  refine ACall.pureW Tryz.func36 rfl Tryz.ntmps36 Tryz.results36 rfl rfl rfl ?_
  simp -implicitDefEqProofs (disch := (first | omega | (simp only [go_sem] <;> omega) | fail)) only [go_sem, simprocAttr]
  refine callF.plain (eqBig_ok r.neg r.mag hr.1 _ _ _ ?_)
  simp -implicitDefEqProofs (disch := (first | omega | (simp only [go_sem] <;> omega) | fail)) only [go_sem, simprocAttr]
  refine callF.plain (eqInts_ok r.den hr.2 _ _ _ ?_)
  simp -implicitDefEqProofs (disch := (first | omega | (simp only [go_sem] <;> omega) | fail)) only [go_sem, simprocAttr]
  exact h

set_option maxRecDepth 100000 in
set_option maxHeartbeats 1000000 in
theorem eqJoint_ok (j : JV) (e : Env) (σ : St) (K : KT) (h : K (.lit (.bool true)) e σ) : ACall Tryz.prog 108 [jointV j, jointV j] e σ K := by
  have hb : (j.fixed == j.fixed) = true := by simp
  unfold jointV
  refine ACall.pureW Tryz.func108 rfl Tryz.ntmps108 Tryz.results108 rfl rfl rfl ?_
  simp -implicitDefEqProofs (disch := (first | omega | (simp only [go_sem] <;> omega) | fail)) only [go_sem, simprocAttr, hb]
  exact h
set_option maxRecDepth 100000 in
set_option maxHeartbeats 1000000 in
theorem eqMem_ok (m : MV) (e : Env) (σ : St) (K : KT) (h : K (.lit (.bool true)) e σ) : ACall Tryz.prog 109 [memV m, memV m] e σ K := by
  unfold memV
  refine ACall.pureW Tryz.func109 rfl Tryz.ntmps109 Tryz.results109 rfl rfl rfl ?_
  simp -implicitDefEqProofs (disch := (first | omega | (simp only [go_sem] <;> omega) | fail)) only [go_sem, simprocAttr]
  exact h

set_option maxRecDepth 100000 in
set_option maxHeartbeats 1000000 in
theorem eqRats_ok (l : List RV) (hl : l.length ≤ 2000000) (hsh : ∀ x ∈ l, toRat_pre x) (e : Env) (σ : St) (K : KT) (h : K (.lit (.bool true)) e σ) : ACall Tryz.prog 16 [sl ratRow l, sl ratRow l] e σ K := by
  refine ACall.pureW Tryz.func16 rfl Tryz.ntmps16 Tryz.results16 rfl rfl rfl ?_
  simp -implicitDefEqProofs (disch := (first | omega | (simp only [go_sem] <;> omega) | fail)) only [go_sem, simprocAttr]
  refine Sat.loopW (fun (t : Nat) e' σ' => ∃ i : Nat, t = l.length - i ∧ i ≤ l.length ∧ e' 0 = sl ratRow l ∧ e' 1 = sl ratRow l ∧ e' 5 = .lit (.int .i64 (i : Nat)) ∧ Old σ σ') (fun t => t) l.length rfl ?_ ?_
  · simp -implicitDefEqProofs (disch := (first | omega | (simp only [go_sem] <;> omega) | fail)) only [go_sem, simprocAttr]
    exact ⟨0, by omega, by omega, rfl⟩
  rintro t e1 σ1 ⟨i, rfl, hi, h0, h1, h5, hO⟩
  have hOn := hO.1
  by_cases hlt : i < l.length
  · have hlt' : (i : Int) < l.length := by omega
    have hx := getD_elem l i hlt default
    obtain ⟨x, hxe⟩ : ∃ x, l[i] = x := ⟨_, rfl⟩
    have hpre := hsh _ (List.getElem_mem hlt)
    rw [hxe] at hx hpre
    simp -implicitDefEqProofs (disch := (first | omega | (simp only [go_sem] <;> omega) | fail)) only [go_sem, simprocAttr, h0, h1, h5, hlt']
    refine Sat.drawn0 [] mixed (by kernel_rfl) ?_
    simp -implicitDefEqProofs (disch := (first | omega | (simp only [go_sem] <;> omega) | fail)) only [go_sem, simprocAttr, h0, h1, h5, hlt', hx, ratRow_eq]
    refine exQ.intro (eqRat_ok x hpre _ _ _ ⟨rfl, rfl⟩) ?_
    simp -implicitDefEqProofs (disch := (first | omega | (simp only [go_sem] <;> omega) | fail)) only [go_sem, simprocAttr, h0, h1, h5, wrap_i64]
    skip
    exact ⟨l.length - (i + 1), by omega, i + 1, rfl, by omega, rfl, by first | exact hO | simp -implicitDefEqProofs (disch := (first | omega | (simp only [go_sem] <;> omega) | fail)) only [go_sem, simprocAttr, hO]⟩
  · have hlt' : ¬ (i : Int) < l.length := by omega
    simp -implicitDefEqProofs (disch := (first | omega | (simp only [go_sem] <;> omega) | fail)) only [go_sem, simprocAttr, h0, h1, h5, hlt', hO]
    exact h

set_option maxRecDepth 100000 in
set_option maxHeartbeats 1000000 in
theorem eqJoints_ok (l : List JV) (hl : l.length ≤ 2000000) (e : Env) (σ : St) (K : KT) (h : K (.lit (.bool true)) e σ) : ACall Tryz.prog 55 [sl jointRow l, sl jointRow l] e σ K := by
  refine ACall.pureW Tryz.func55 rfl Tryz.ntmps55 Tryz.results55 rfl rfl rfl ?_
  simp -implicitDefEqProofs (disch := (first | omega | (simp only [go_sem] <;> omega) | fail)) only [go_sem, simprocAttr]
  refine Sat.loopW (fun (t : Nat) e' σ' => ∃ i : Nat, t = l.length - i ∧ i ≤ l.length ∧ e' 0 = sl jointRow l ∧ e' 1 = sl jointRow l ∧ e' 5 = .lit (.int .i64 (i : Nat)) ∧ Old σ σ') (fun t => t) l.length rfl ?_ ?_
  · simp -implicitDefEqProofs (disch := (first | omega | (simp only [go_sem] <;> omega) | fail)) only [go_sem, simprocAttr]
    exact ⟨0, by omega, by omega, rfl⟩
  rintro t e1 σ1 ⟨i, rfl, hi, h0, h1, h5, hO⟩
  have hOn := hO.1
  by_cases hlt : i < l.length
  · have hlt' : (i : Int) < l.length := by omega
    have hx := getD_elem l i hlt default
    obtain ⟨x, hxe⟩ : ∃ x, l[i] = x := ⟨_, rfl⟩
    rw [hxe] at hx
    simp -implicitDefEqProofs (disch := (first | omega | (simp only [go_sem] <;> omega) | fail)) only [go_sem, simprocAttr, h0, h1, h5, hlt']
    refine Sat.drawn0 [] mixed (by kernel_rfl) ?_
    simp -implicitDefEqProofs (disch := (first | omega | (simp only [go_sem] <;> omega) | fail)) only [go_sem, simprocAttr, h0, h1, h5, hlt', hx, jointRow_eq]
    refine exQ.intro (eqJoint_ok x _ _ _ ⟨rfl, rfl⟩) ?_
    simp -implicitDefEqProofs (disch := (first | omega | (simp only [go_sem] <;> omega) | fail)) only [go_sem, simprocAttr, h0, h1, h5, wrap_i64]
    skip
    exact ⟨l.length - (i + 1), by omega, i + 1, rfl, by omega, rfl, by first | exact hO | simp -implicitDefEqProofs (disch := (first | omega | (simp only [go_sem] <;> omega) | fail)) only [go_sem, simprocAttr, hO]⟩
  · have hlt' : ¬ (i : Int) < l.length := by omega
    simp -implicitDefEqProofs (disch := (first | omega | (simp only [go_sem] <;> omega) | fail)) only [go_sem, simprocAttr, h0, h1, h5, hlt', hO]
    exact h

set_option maxRecDepth 100000 in
set_option maxHeartbeats 1000000 in
theorem eqMems_ok (l : List MV) (hl : l.length ≤ 2000000) (e : Env) (σ : St) (K : KT) (h : K (.lit (.bool true)) e σ) : ACall Tryz.prog 56 [sl memRow l, sl memRow l] e σ K := by
  refine ACall.pureW Tryz.func56 rfl Tryz.ntmps56 Tryz.results56 rfl rfl rfl ?_
  simp -implicitDefEqProofs (disch := (first | omega | (simp only [go_sem] <;> omega) | fail)) only [go_sem, simprocAttr]
  refine Sat.loopW (fun (t : Nat) e' σ' => ∃ i : Nat, t = l.length - i ∧ i ≤ l.length ∧ e' 0 = sl memRow l ∧ e' 1 = sl memRow l ∧ e' 5 = .lit (.int .i64 (i : Nat)) ∧ Old σ σ') (fun t => t) l.length rfl ?_ ?_
  · simp -implicitDefEqProofs (disch := (first | omega | (simp only [go_sem] <;> omega) | fail)) only [go_sem, simprocAttr]
    exact ⟨0, by omega, by omega, rfl⟩
  rintro t e1 σ1 ⟨i, rfl, hi, h0, h1, h5, hO⟩
  have hOn := hO.1
  by_cases hlt : i < l.length
  · have hlt' : (i : Int) < l.length := by omega
    have hx := getD_elem l i hlt default
    obtain ⟨x, hxe⟩ : ∃ x, l[i] = x := ⟨_, rfl⟩
    rw [hxe] at hx
    simp -implicitDefEqProofs (disch := (first | omega | (simp only [go_sem] <;> omega) | fail)) only [go_sem, simprocAttr, h0, h1, h5, hlt']
    refine Sat.drawn0 [] mixed (by kernel_rfl) ?_
    simp -implicitDefEqProofs (disch := (first | omega | (simp only [go_sem] <;> omega) | fail)) only [go_sem, simprocAttr, h0, h1, h5, hlt', hx, memRow_eq]
    refine exQ.intro (eqMem_ok x _ _ _ ⟨rfl, rfl⟩) ?_
    simp -implicitDefEqProofs (disch := (first | omega | (simp only [go_sem] <;> omega) | fail)) only [go_sem, simprocAttr, h0, h1, h5, wrap_i64]
    skip
    exact ⟨l.length - (i + 1), by omega, i + 1, rfl, by omega, rfl, by first | exact hO | simp -implicitDefEqProofs (disch := (first | omega | (simp only [go_sem] <;> omega) | fail)) only [go_sem, simprocAttr, hO]⟩
  · have hlt' : ¬ (i : Int) < l.length := by omega
    simp -implicitDefEqProofs (disch := (first | omega | (simp only [go_sem] <;> omega) | fail)) only [go_sem, simprocAttr, h0, h1, h5, hlt', hO]
    exact h

set_option maxRecDepth 100000 in
set_option maxHeartbeats 1000000 in
theorem eqStruct_ok (v : SV) (h1 : v.joints.length ≤ 2000000) (h2 : v.members.length ≤ 2000000) (e : Env) (σ : St) (K : KT) (h : K (.lit (.bool true)) e σ) : ACall Tryz.prog 17 [structV v, structV v] e σ K := by
  unfold structV
  refine ACall.pureW Tryz.func17 rfl Tryz.ntmps17 Tryz.results17 rfl rfl rfl ?_
  simp -implicitDefEqProofs (disch := (first | omega | (simp only [go_sem] <;> omega) | fail)) only [go_sem, simprocAttr]
  refine callF.plain (eqJoints_ok v.joints h1 _ _ _ ?_)
  simp -implicitDefEqProofs (disch := (first | omega | (simp only [go_sem] <;> omega) | fail)) only [go_sem, simprocAttr]
  refine callF.plain (eqMems_ok v.members h2 _ _ _ ?_)
  simp -implicitDefEqProofs (disch := (first | omega | (simp only [go_sem] <;> omega) | fail)) only [go_sem, simprocAttr]
  exact h
end Go.Proofs.Qqz
