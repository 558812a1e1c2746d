/- Calls to which the call's own blocks are lent: the callee reads them as data and gives them back. -/
import Derived.Test.YtanoekhdoelkbaaGreatKe
set_option linter.unusedSimpArgs false
set_option linter.unusedVariables false
namespace Go.Proofs.Qqz
open Go

/-- Holds nothing that is read by value from other blocks. -/
inductive NoPs : AV → Prop
  | any : NoPs .any
  | lit {v} : NoPs (.lit v)
  | agg {l : List AV} (h : ∀ a ∈ l, NoPs a) : NoPs (.agg l)
  | tup {l : List AV} (h : ∀ a ∈ l, NoPs a) : NoPs (.tup l)
  | os {i o l} : NoPs (.os i o l)
  | ptr {i r c} : NoPs (.ptr i r c)

/-- Holds no references at all. -/
inductive NoRef : AV → Prop
  | any : NoRef .any
  | lit {v} : NoRef (.lit v)
  | agg {l : List AV} (h : ∀ a ∈ l, NoRef a) : NoRef (.agg l)
  | tup {l : List AV} (h : ∀ a ∈ l, NoRef a) : NoRef (.tup l)

def NoPsB : Blk → Prop
  | .dead => True
  | .flat _ rows => ∀ row ∈ rows, ∀ a ∈ row, NoPs a
  | .deep _ rows => ∀ row ∈ rows, ∀ a ∈ row, NoPs a

theorem VR.noPs {w : World} {A A' : Nat → Prop} {ι : Owns} {n : Nat} {v : Value} {a : AV} (h : VR w A ι n v a) (hp : NoPs a) : VR w A' ι n v a := by
  induction h with
  | any => exact .any
  | lit => exact .lit
  | agg vs l hl _ ih => cases hp with | agg hp => exact .agg vs l hl fun i v a h1 h2 => ih i v a h1 h2 (hp a (List.mem_of_getElem? h2))
  | tup vs l hl _ ih => cases hp with | tup hp => exact .tup vs l hl fun i v a h1 h2 => ih i v a h1 h2 (hp a (List.mem_of_getElem? h2))
  | clo vs l hl _ ih => cases hp
  | psz => cases hp
  | ps => cases hp
  | pa => cases hp
  | os hn hv hcap hl => exact .os hn hv hcap hl
  | osz hn => exact .osz hn
  | ptr hn hv => exact .ptr hn hv

theorem VR.noRef {w w' : World} {A A' : Nat → Prop} {ι ι' : Owns} {n n' : Nat} {v : Value} {a : AV} (h : VR w A ι n v a) (hp : NoRef a) : VR w' A' ι' n' v a := by
  induction h with
  | any => exact .any
  | lit => exact .lit
  | agg vs l hl _ ih => cases hp with | agg hp => exact .agg vs l hl fun i v a h1 h2 => ih i v a h1 h2 (hp a (List.mem_of_getElem? h2))
  | tup vs l hl _ ih => cases hp with | tup hp => exact .tup vs l hl fun i v a h1 h2 => ih i v a h1 h2 (hp a (List.mem_of_getElem? h2))
  | clo => cases hp
  | psz => cases hp
  | ps => cases hp
  | pa => cases hp
  | os => cases hp
  | osz => cases hp
  | ptr => cases hp

theorem RowsOk.noPs {w : World} {A A' : Nat → Prop} {ι : Owns} {n : Nat} {o : Own} {wd : Nat} {rows : List (List AV)} (h : RowsOk w A ι n o wd rows) (hp : ∀ row ∈ rows, ∀ a ∈ row, NoPs a) : RowsOk w A' ι n o wd rows := by
  obtain ⟨h1, h2, h3, h4⟩ := h
  refine ⟨h1, h2, h3, ?_⟩
  split
  · rename_i hv; rw [if_pos hv] at h4; exact h4
  · rename_i hv
    rw [if_neg hv] at h4
    obtain ⟨arr, el, c1, c2, c3⟩ := h4
    refine ⟨arr, el, c1, c2, fun i row hi j a ha => ?_⟩
    obtain ⟨v, g1, g2⟩ := c3 i row hi j a ha
    exact ⟨v, g1, g2.noPs (hp row (List.mem_of_getElem? hi) a (List.mem_of_getElem? ha))⟩

theorem BlkOk.noPs {w : World} {A A' : Nat → Prop} {ι : Owns} {n : Nat} {o : Own} {B : Blk} (h : BlkOk w A ι n o B) (hp : NoPsB B) : BlkOk w A' ι n o B := by
  cases B with
  | dead => trivial
  | flat wd rows => exact RowsOk.noPs h hp
  | deep wd rows => exact RowsOk.noPs h hp

def deadS (σ : St) : St := ⟨σ.n, fun _ => .dead⟩

open Classical in
/-- The lender's blocks as they were; of the new ones those that hold nothing of what was lent. -/
noncomputable def backS (σ σ' : St) : St := ⟨σ'.n, fun id => if id < σ.n then σ.h id else if NoPsB (σ'.h id) then σ'.h id else .dead⟩

section
variable {P : Program} {w : World} {A : Nat → Prop} {ι : Owns} {σ : St} {e : Env} {K : KT} {a : Act} {N : Nat} {Q : Exit → Env → St → Prop} {c : Code}

theorem not_live_dead {b : Nat} : ¬ Live ι (deadS σ) b := by
  rintro ⟨id, _, h, _⟩
  simp [deadS, Blk.live] at h

theorem Real.lent (hr : Real w A ι σ) : Real w (Aup A ι σ 0) ι (deadS σ) := by
  refine ⟨fun id hid => trivial, fun i j hi hj h1 => ?_, fun b _ hb => not_live_dead hb, fun b hb => ?_, fun _ _ => rfl⟩
  · simp [deadS, Blk.live] at h1
  · rcases hb with hb | ⟨id, _, h2, h3, h4, h5⟩
    · exact hr.inA b hb
    · exact hr.live_lt ⟨id, h2, h3, h4, h5⟩

theorem lent_args (hr : Real w A ι σ) {vs : List Value} {args : List AV} (h : VRs w A ι σ.n vs args) : VRs w (Aup A ι σ 0) ι (deadS σ).n vs (args.map (frz 0 σ 6 true)) :=
  ⟨by simpa using h.1, fun i v b hv hb => by
    rw [List.getElem?_map] at hb
    obtain ⟨x, hx, rfl⟩ := Option.map_eq_some_iff.1 hb
    exact (show VR w (Aup A ι σ 0) ι 0 v _ by simpa using frz_VR hr (Nat.zero_le _) 6 true v x (h.2 i v x hv hx)).up (Nat.zero_le _)⟩

theorem Real.backs {w' : World} {A' : Nat → Prop} {ι' : Owns} {σ' : St} (hr : Real w A ι σ) (hr' : Real w' A' ι' σ') (hx : Ext w (Aup A ι σ 0) ι (deadS σ) w' A' ι' σ') :
    Real w' A ι' (backS σ σ') ∧ Ext w A ι σ w' A ι' (backS σ σ') := by
  have hn : σ.n ≤ σ'.n := hx.n
  have keep : ∀ b, b < w.heap.size → w'.heap[b]? = w.heap[b]? := fun b hb => hx.keep b hb not_live_dead
  have io : ∀ id, id < σ.n → ι' id = ι id := hx.io
  have old : ∀ id, id < σ.n → (backS σ σ').h id = σ.h id := fun id h => by simp [backS, h]
  have new : ∀ id, ¬ id < σ.n → ((backS σ σ').h id).live = true → (backS σ σ').h id = σ'.h id ∧ NoPsB (σ'.h id) := fun id h hl => by
    simp only [backS, if_neg h] at hl ⊢
    split at hl
    · rename_i hp; exact ⟨if_pos hp, hp⟩
    · cases hl
  have oldlt : ∀ id, id < σ.n → ((backS σ σ').h id).live = true → (ι' id).virt = false → (ι' id).blk < w.heap.size := fun id h hl hv => by
    rw [old id h] at hl
    rw [io id h] at hv ⊢
    exact hr.live_lt ⟨id, h, hl, hv, rfl⟩
  have newge : ∀ id, ¬ id < σ.n → id < σ'.n → ((backS σ σ').h id).live = true → (ι' id).virt = false → w.heap.size ≤ (ι' id).blk := fun id h h' hl hv => by
    rw [(new id h hl).1] at hl
    exact (hx.live _ ⟨id, h', hl, hv, rfl⟩).elim (fun h => absurd h not_live_dead) fun h => h
  refine ⟨⟨fun id hid => ?_, fun i j hi hj h1 h2 h3 h4 h5 => ?_, fun b hb hb' => ?_, fun b hb => Nat.lt_of_lt_of_le (hr.inA b hb) hx.size, fun id hid => ?_⟩,
    ⟨hx.os, hx.tape, hx.output, hx.size, hn, io, fun b hb => hb, fun b hb _ => keep b hb, fun b hb => ?_, fun b hb => .inl hb⟩⟩
  · by_cases h : id < σ.n
    · rw [old id h, io id h]
      refine (hr.ok id h).mono (show σ.n ≤ σ'.n from hn) (fun b hb => hb) (fun b hb => keep b (hr.inA b hb)) io fun hl hv => keep _ (hr.live_lt ⟨id, h, hl, hv, rfl⟩)
    · by_cases hl : ((backS σ σ').h id).live = true
      · obtain ⟨h1, h2⟩ := new id h hl
        rw [h1]
        exact (hr'.ok id hid).noPs h2
      · cases hB : (backS σ σ').h id with
        | dead => trivial
        | flat => rw [hB] at hl; simp [Blk.live] at hl
        | deep => rw [hB] at hl; simp [Blk.live] at hl
  · by_cases hi' : i < σ.n <;> by_cases hj' : j < σ.n
    · rw [old i hi'] at h1
      rw [old j hj'] at h2
      rw [io i hi'] at h3 h5
      rw [io j hj'] at h4 h5
      exact hr.inj i j hi' hj' h1 h2 h3 h4 h5
    · have := oldlt i hi' h1 h3
      have := newge j hj' hj h2 h4
      omega
    · have := oldlt j hj' h2 h4
      have := newge i hi' hi h1 h3
      omega
    · rw [(new i hi' h1).1] at h1
      rw [(new j hj' h2).1] at h2
      exact hr'.inj i j hi hj h1 h2 h3 h4 h5
  · obtain ⟨id, g1, g2, g3, g4⟩ := hb'
    have hlt := hr.inA b hb
    by_cases h : id < σ.n
    · rw [old id h] at g2
      rw [io id h] at g3 g4
      exact hr.away b hb ⟨id, h, g2, g3, g4⟩
    · have := newge id h g1 g2 g3
      omega
  · have : ¬ id < σ.n := by have : σ'.n ≤ id := hid; omega
    simp only [backS, if_neg this]
    rw [hr'.dead id hid]
    simp
  · obtain ⟨id, g1, g2, g3, g4⟩ := hb
    by_cases h : id < σ.n
    · rw [old id h] at g2
      rw [io id h] at g3 g4
      exact .inl ⟨id, h, g2, g3, g4⟩
    · exact .inr (g4 ▸ newge id h g1 g2 g3)

/-- What the callee made of its own is the caller's; what it read is as it was. -/
theorem ACall.lend {f : FuncId} {args : List AV} (h : ACall P f (args.map (frz 0 σ 6 true)) e (deadS σ) (fun v _ σ' => NoPs v ∧ ∀ σ2 : St, Old σ σ2 → σ2.n = σ'.n → (∀ id, σ.n ≤ id → NoPsB (σ'.h id) → σ2.h id = σ'.h id) → K v e σ2)) : ACall P f args e σ K := by
  refine ⟨h.1, fun w A ι vs hr hvs => (h.2 w _ ι vs hr.lent (lent_args hr hvs)).mono ?_⟩
  rintro en w' ⟨v, h1, A', ι', σ', av, g1, g2, g4, hp, hK⟩
  obtain ⟨r1, r2⟩ := hr.backs g1 g2
  refine ⟨v, h1, A, ι', backS σ σ', av, r1, r2, (g4.noPs hp : VR w' A ι' σ'.n v av), hK _ ⟨g2.n, fun k hk => by simp [backS, hk]⟩ rfl fun id hid hp => ?_⟩
  have : ¬ id < σ.n := by omega
  simp [backS, this, hp]

/-- The callee hands back a plain value. -/
theorem ACall.lendP {f : FuncId} {args : List AV} (h : ACall P f (args.map (frz 0 σ 6 true)) e (deadS σ) (fun v _ _ => NoRef v ∧ K v e σ)) : ACall P f args e σ K := by
  refine ⟨h.1, fun w A ι vs hr hvs => (h.2 w _ ι vs hr.lent (lent_args hr hvs)).mono ?_⟩
  rintro en w' ⟨v, h1, A', ι', σ', av, g1, g2, g4, hp, hK⟩
  have keep : ∀ b, b < w.heap.size → w'.heap[b]? = w.heap[b]? := fun b hb => g2.keep b hb not_live_dead
  have io : ∀ id, id < σ.n → ι' id = ι id := g2.io
  refine ⟨v, h1, A, ι', σ, av, ⟨fun id hid => ?_, fun i j hi hj h1 h2 h3 h4 h5 => ?_, fun b hb hb' => ?_, fun b hb => Nat.lt_of_lt_of_le (hr.inA b hb) g2.size, hr.dead⟩,
    ⟨g2.os, g2.tape, g2.output, g2.size, Nat.le_refl _, io, fun b hb => hb, fun b hb _ => keep b hb, fun b hb => ?_, fun b hb => .inl hb⟩, g4.noRef hp, hK⟩
  · rw [io id hid]
    exact (hr.ok id hid).mono (Nat.le_refl _) (fun b hb => hb) (fun b hb => keep b (hr.inA b hb)) io fun hl hv => keep _ (hr.live_lt ⟨id, hid, hl, hv, rfl⟩)
  · rw [io i hi] at h3 h5
    rw [io j hj] at h4 h5
    exact hr.inj i j hi hj h1 h2 h3 h4 h5
  · obtain ⟨id, k1, k2, k3, k4⟩ := hb'
    rw [io id k1] at k3 k4
    exact hr.away b hb ⟨id, k1, k2, k3, k4⟩
  · obtain ⟨id, k1, k2, k3, k4⟩ := hb
    rw [io id k1] at k3 k4
    exact .inl ⟨id, k1, k2, k3, k4⟩

/-- A nil slice handed back reads as an own slice of no rows. -/
theorem ACall.nilOs (wd : Nat) {f : FuncId} {args : List AV} (h : ACall P f args e σ (fun v e σ' => (v = .lit (.slice none 0 0) ∧ K (.os σ'.n 0 0) e (σ'.new (.flat wd []))) ∨ K v e σ')) : ACall P f args e σ K := by
  refine ⟨h.1, fun w A ι vs hr hvs => (h.2 w A ι vs hr hvs).mono ?_⟩
  rintro en w' ⟨v, h1, A', ι', σ', av, g1, g2, g4, hK⟩
  rcases hK with ⟨rfl, hK⟩ | hK
  · cases g4
    obtain ⟨r1, r2⟩ := Real.make (o := ⟨0, 0, wd, true⟩) (B := .flat wd []) (b0 := w'.heap.size) g1 ⟨rfl, rfl, rfl, Nat.le_refl _, fun _ _ _ => rfl⟩ (by simp) (by omega) ⟨rfl, by simp, by simp, by simp⟩
    exact ⟨_, h1, A', _, _, _, r1, g2.trans r2, .osz (by simp [St.new]), hK⟩
  · exact ⟨v, h1, A', ι', σ', av, g1, g2, g4, hK⟩

/-- From here on rows of a block may refer to own blocks. -/
theorem Sat.deep (id wd : Nat) (rows : List (List AV)) (hB : σ.h id = .flat wd rows) (h : Sat P N c Q e (σ.put id (.deep wd rows))) : Sat P N c Q e σ := fun a w A ι hN hr => by
  obtain ⟨h1, h2, h3⟩ := hr
  have hid : id < σ.n := by
    by_cases hid : id < σ.n
    · exact hid
    · have := h2.dead id (by omega)
      rw [hB] at this; cases this
  have hlv : ∀ k, ((σ.put id (.deep wd rows)).h k).live = (σ.h k).live := fun k => by
    simp only [St.put]
    split
    · rename_i hk; subst hk; rw [hB]; rfl
    · rfl
  have hL : ∀ b, Live ι (σ.put id (.deep wd rows)) b ↔ Live ι σ b := fun b => by
    unfold Live; simp only [hlv]; rfl
  have r1 : Real w A ι (σ.put id (.deep wd rows)) := by
    refine ⟨fun k hk => ?_, fun i j hi hj a1 a2 => h2.inj i j hi hj (by rw [← hlv]; exact a1) (by rw [← hlv]; exact a2), fun b hb hb' => h2.away b hb ((hL b).1 hb'), h2.inA, fun k hk => ?_⟩
    · simp only [St.put]
      split
      · rename_i hk'; subst hk'
        have := h2.ok k hid
        rw [hB] at this
        obtain ⟨b1, b2, b3, b4⟩ := this
        refine ⟨b1, b2, b3, ?_⟩
        split
        · rename_i hv; rw [if_pos hv] at b4; exact b4
        · rename_i hv
          rw [if_neg hv] at b4
          obtain ⟨arr, el, c1, c2, c3⟩ := b4
          exact ⟨arr, el, c1, c2, fun i row hi j a ha => let ⟨v, g1, g2⟩ := c3 i row hi j a ha; ⟨v, g1, g2.up (Nat.zero_le _)⟩⟩
      · exact h2.ok k hk
    · simp only [St.put]
      split
      · rename_i hk'; subst hk'; have : σ.n ≤ k := hk; omega
      · exact h2.dead k hk
  have r2 : Ext w A ι σ w A ι (σ.put id (.deep wd rows)) := ⟨rfl, rfl, rfl, Nat.le_refl _, Nat.le_refl _, fun _ _ => rfl, fun b hb => hb, fun _ _ _ => rfl, fun b hb => .inl ((hL b).1 hb), fun b hb => .inl hb⟩
  exact wp_mono (h a w A ι hN ⟨h1, r1, h3⟩) fun x a' w' hp => hp.trans r2
end

section
variable {P : Program} {e : Env} {σ : St} {K : KT}
theorem bytesF_one (s d id : Nat) (n : Int) (hs : (match P.underlying s with | some (.slice el) => P.underlying el = some (.int .u8) | _ => False)) (hd : P.underlying d = some .string) (hB : σ.h id = .flat 1 [[.lit (.int .u8 n)]]) :
    bytesF P s d id 0 1 e σ K = K (.lit (.string (ByteArray.empty.push (UInt8.ofNat n.toNat)))) e σ := by
  unfold bytesF
  rw [hB]
  simp only [hd]
  simp only [true_and]
  exact propext ⟨fun h => h.2, fun h => ⟨hs, h⟩⟩
end
end Go.Proofs.Qqz
