/- What an operation's meaning depends on: the values that it looks at. -/
import Derived.Test.YtanoekhdoelkbaaGreatCoreJ
set_option linter.unusedSimpArgs false
set_option linter.unusedVariables false
namespace Go.Proofs.Qqz
open Go

section
variable {P : Program} {σ : St} {e e' : Env}

theorem map_evA {xs : List Operand} (h : ∀ x ∈ xs, evA e x = evA e' x) : xs.map (evA e) = xs.map (evA e') := List.map_congr_left h

theorem omap_evA {x : Option Operand} (h : ∀ y ∈ x.toArray, evA e y = evA e' y) : x.map (evA e) = x.map (evA e') := by
  cases x with
  | none => rfl
  | some x => simp [h x (by simp)]

theorem callA_env {c : Call} {R : AV → St → Prop} (h : ∀ x ∈ c.operands, evA e x = evA e' x) (hh : callA P c e σ (fun v _ σ' => R v σ')) : callA P c e' σ (fun v _ σ' => R v σ') := by
  obtain ⟨callee, args, ts⟩ := c
  have ha : args.toList.map (evA e) = args.toList.map (evA e') := map_evA fun x hx => h x (by simp only [Call.operands, Array.mem_append]; exact .inr (by simpa using hx))
  cases callee with
  | value f =>
    have hf : evA e f = evA e' f := h f (by simp [Call.operands])
    simp only [callA, ha, hf] at hh ⊢
    exact hh
  | builtin b =>
    simp only [callA, ha] at hh ⊢
    exact hh
  | invoke => exact hh.elim

theorem opA_env {op : Op} {R : AV → St → Prop} (h : ∀ x ∈ op.operands, evA e x = evA e' x) (hh : opA P op e σ (fun v _ σ' => R v σ')) : opA P op e' σ (fun v _ σ' => R v σ') := by
  cases op <;> simp only [opA] at hh ⊢ <;> simp only [Op.operands] at h
  case move x => rw [← h x (by simp)]; exact hh
  case assign x => rw [← h x (by simp)]; exact hh
  case pick c a b => rw [← h c (by simp), ← h a (by simp), ← h b (by simp)]; exact hh
  case alloc t => exact hh
  case box t x => rw [← h x (by simp)]; exact hh
  case build t ps =>
    have : partsE e ps.toList = partsE e' ps.toList := List.map_congr_left fun p hp => by rw [h p.2 (by simp; exact ⟨p.1, by simpa using hp⟩)]
    rw [← this]; exact hh
  case buildSlice t n ps =>
    have : partsE e ps.toList = partsE e' ps.toList := List.map_congr_left fun p hp => by rw [h p.2 (by simp; exact ⟨p.1, by simpa using hp⟩)]
    rw [← this]; exact hh
  case load t x => rw [← h x (by simp)]; exact hh
  case store t x y => rw [← h x (by simp), ← h y (by simp)]; exact hh
  case nilCheck x => rw [← h x (by simp)]; exact hh
  case binOp op t x y t2 => rw [← h x (by simp), ← h y (by simp)]; exact hh
  case unOp op t x => rw [← h x (by simp)]; exact hh
  case convert s d x => rw [← h x (by simp)]; exact hh
  case makeFunc fn first caps =>
    rw [← map_evA (e := e) fun x hx => h x (by simp; exact .inl (by simpa using hx)), ← map_evA (e := e) fun x hx => h x (by simp; exact .inr (by simpa using hx))]; exact hh
  case makeSlice t x y => rw [← h x (by simp), ← h y (by simp)]; exact hh
  case slice t x lo hi mx =>
    rw [← h x (by simp), ← omap_evA (e := e) fun y hy => h y (by simp at hy ⊢; simp [hy]), ← omap_evA (e := e) fun y hy => h y (by simp at hy ⊢; simp [hy]), ← omap_evA (e := e) fun y hy => h y (by simp at hy ⊢; simp [hy])]; exact hh
  case fieldAddr t x f => rw [← h x (by simp)]; exact hh
  case field t x f => rw [← h x (by simp)]; exact hh
  case indexAddr t x y => rw [← h x (by simp), ← h y (by simp)]; exact hh
  case index t x y => rw [← h x (by simp), ← h y (by simp)]; exact hh
  case extract x i => rw [← h x (by simp)]; exact hh
  case call c => exact callA_env h hh

theorem intA_mono {op : BinOp} {k : IntKind} {a b : Int} {K K' : KT} (hk : ∀ v, K v e σ → K' v e σ) : intA op k a b e σ K → intA op k a b e σ K' := by
  cases op <;> simp only [intA] <;> first | exact hk _ | exact fun h => ⟨h.1, hk _ h.2⟩ | exact id

theorem eqA_mono {t : TypeId} {x y : AV} {K K' : Bool → Prop} (hk : ∀ v, K v → K' v) : eqA P t x y e σ K → eqA P t x y e σ K' := by
  unfold eqA
  split <;> first | exact hk _ | exact fun h => ⟨h.1, hk _ h.2⟩ | exact fun h => ⟨h.1, fun b hb => hk b (h.2 b hb)⟩ | exact id

theorem binA_mono {op : BinOp} {t : TypeId} {x y : AV} {K K' : KT} (hk : ∀ v, K v e σ → K' v e σ) : binA P op t x y e σ K → binA P op t x y e σ K' := by
  unfold binA
  split
  · exact fun h => ⟨h.1, intA_mono hk h.2⟩
  · split
    · exact eqA_mono fun b => hk _
    · exact eqA_mono fun b => hk _
    · split
      · exact fun h => ⟨h.1, hk _ h.2⟩
      · exact id
    · exact id

/-- Operations whose meaning does not depend on memory. -/
def indepOp : Op → Bool
  | .move _ => true
  | .assign _ => true
  | .pick _ _ _ => true
  | .unOp _ _ _ => true
  | .binOp _ _ _ _ _ => true
  | .convert _ _ _ => true
  | .field _ _ _ => true
  | .nilCheck _ => true
  | .fieldAddr _ _ _ => true
  | .extract _ _ => true
  | _ => false

theorem opA_indep {op : Op} {u : AV} (hi : indepOp op = true) (hh : opA P op e σ (fun v _ σ' => v = u ∧ σ' = σ)) (σ2 : St) : opA P op e σ2 (fun v _ σ' => v = u ∧ σ' = σ2) := by
  cases op <;> simp only [indepOp, Bool.false_eq_true] at hi <;> simp only [opA] at hh ⊢
  case move x => simpa using hh
  case assign x => simpa using hh
  case pick c a b =>
    unfold pickA at hh ⊢
    split <;> simp_all
  case binOp op t x y t2 =>
    have h1 : binA P op t (evA e x) (evA e y) e σ (fun v _ _ => v = u) := binA_mono (fun v h => h.1) hh
    have h2 : binA P op t (evA e x) (evA e y) e σ2 (fun v _ _ => v = u) := h1
    exact binA_mono (fun v h => ⟨h, rfl⟩) h2
  case nilCheck x =>
    unfold nilCheckA at hh ⊢
    split <;> simp_all
  case unOp op t x =>
    unfold unA at hh ⊢
    split <;> simp_all
  case convert s d x =>
    unfold convA at hh ⊢
    refine ⟨hh.1, ?_⟩
    replace hh := hh.2
    split <;> simp_all
  case fieldAddr t x f =>
    unfold fieldAddrA withTI at hh ⊢
    cases ht : tiOf P t with
    | none => rw [ht] at hh; exact hh
    | some i =>
      rw [ht] at hh
      simp only at hh ⊢
      cases hf : i.fields[f]? with
      | none => rw [hf] at hh; exact hh
      | some p =>
        rw [hf] at hh
        simp only at hh ⊢
        refine ⟨hh.1, ?_⟩
        replace hh := hh.2
        cases hx : evA e x <;> rw [hx] at hh
        case pa row c => exact ⟨hh.1, by simp⟩
        case ptr id r c => exact ⟨hh.1, by simp⟩
        all_goals exact hh
  case field t x f =>
    unfold fieldA withTI at hh ⊢
    cases ht : tiOf P t with
    | none => rw [ht] at hh; exact hh
    | some i =>
      rw [ht] at hh
      simp only at hh ⊢
      cases hf : i.fields[f]? with
      | none => rw [hf] at hh; exact hh
      | some p =>
        rw [hf] at hh
        simp only at hh ⊢
        cases hu : tiOf P p.2 with
        | none => rw [hu] at hh; exact hh
        | some j =>
          rw [hu] at hh
          simp only at hh ⊢
          cases hx : evA e x <;> rw [hx] at hh
          case agg l =>
            simp only [loadRow] at hh ⊢
            split
            · rename_i hc; rw [if_pos hc] at hh; exact ⟨hh.1, hh.2.1, by simp⟩
            · rename_i hc; rw [if_neg hc] at hh; exact ⟨hh.1, hh.2.1, by simp⟩
          all_goals exact hh
  case extract x i =>
    unfold extractA at hh ⊢
    cases hx : evA e x <;> rw [hx] at hh
    case tup l => exact ⟨hh.1, hh.2.1, by simp⟩
    all_goals exact hh
end
end Go.Proofs.Qqz
