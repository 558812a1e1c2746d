/- How the arguments of a row read as abstract values. -/
import Derived.Test.YtanoekhdoelkbaaGreatLwb
import Derived.Deep.Slices
import Derived.Below
set_option linter.unusedSimpArgs false
set_option linter.unusedVariables false
namespace Go.Proofs.Qqz
open Go Go.Deep

section
variable {H : Type} {enc : TypeId × Value → H} {P : Program}

def inW (W : World) (b : Nat) : Prop := b < W.heap.size

/-- What reads at type t reads as an x with these cells. -/
def Rd (enc : TypeId × Value → H) (P : Program) (t : TypeId) (wd : Nat) {α : Type} (f : α → List AV) (p : α → Prop) : Prop :=
  ∀ (W : World) (ι : Owns) (fuel : Nat) (cs : List Value) (y : DataW H × List MemPlace), DataW.trod enc P W 0 (fun _ => true) true fuel t cs = some y →
    ∃ x : α, p x ∧ cs.length = wd ∧ (f x).length = wd ∧ ∀ (j : Nat) (v : Value) (a : AV), cs[j]? = some v → (f x)[j]? = some a → VR W (inW W) ι 0 v a

theorem Rd.map {t wd : Nat} {α β : Type} {f : α → List AV} {p : α → Prop} (g : α → β) {f' : β → List AV} {p' : β → Prop} (h : Rd enc P t wd f p) (hf : ∀ x, f' (g x) = f x) (hp : ∀ x, p x → p' (g x)) : Rd enc P t wd f' p' := by
  intro W ι fuel cs y hy
  obtain ⟨x, h1, h2, h3, h4⟩ := h W ι fuel cs y hy
  exact ⟨g x, hp x h1, h2, by rw [hf]; exact h3, by rw [hf]; exact h4⟩

theorem rd_one {v : Value} {a : AV} {W : World} {ι : Owns} (h : VR W (inW W) ι 0 v a) : ∀ (j : Nat) (v' : Value) (a' : AV), [v][j]? = some v' → [a][j]? = some a' → VR W (inW W) ι 0 v' a' := by
  intro j v' a' h1 h2
  cases j with
  | zero => cases h1; cases h2; exact h
  | succ j => simp at h1

theorem rd_int {t : TypeId} (ht : P.underlying t = some (.int .i64)) : Rd enc P t 1 intRow (fun n : Int => -9223372036854775808 ≤ n ∧ n ≤ 9223372036854775807) := by
  intro W ι fuel cs y hy
  obtain ⟨n, rfl, _, hw⟩ := DataW.trod_int ht hy
  refine ⟨n, ?_, rfl, rfl, rd_one .lit⟩
  simp only [Lit.wf, Bool.and_eq_true, decide_eq_true_eq] at hw
  have h1 : IntKind.i64.min = -9223372036854775808 := by decide
  have h2 : IntKind.i64.max = 9223372036854775807 := by decide
  rw [h1, h2] at hw
  exact hw

theorem rd_bool {t : TypeId} (ht : P.underlying t = some .bool) : Rd enc P t 1 (fun b : Bool => [.lit (.bool b)]) (fun _ => True) := by
  intro W ι fuel cs y hy
  obtain ⟨b, rfl, _⟩ := DataW.trod_bool ht hy
  exact ⟨b, trivial, rfl, rfl, rd_one .lit⟩

theorem rd_string {t : TypeId} (ht : P.underlying t = some .string) : Rd enc P t 1 (fun s : ByteArray => [.lit (.string s)]) (fun s => s.size ≤ 9223372036854775807) := by
  intro W ι fuel cs y hy
  obtain ⟨s, rfl, _, hs⟩ := DataW.trod_string ht hy
  exact ⟨s, hs, rfl, rfl, rd_one .lit⟩

theorem rd_slice {t e : TypeId} {wd : Nat} {α : Type} {f : α → List AV} {p : α → Prop} (ht : P.underlying t = some (.slice e)) (hc : P.cellsOf e = wd) (hw0 : 0 < wd) (he : Rd enc P e wd f p) :
    Rd enc P t 1 (fun l : List α => [sl f l]) (fun l => l.length ≤ 9223372036854775807 ∧ ∀ x ∈ l, p x) := by
  intro W ι fuel cs y hy
  rcases open_slice ht hy with ⟨rfl, _⟩ | ⟨a, len, cap, m, n, D, Pl, rfl, hb, hl, hm, hmm, _, hx⟩
  · exact ⟨[], ⟨by simp, by simp⟩, rfl, rfl, rd_one .psz⟩
  simp only [if_true] at hmm
  subst hmm
  rw [hc] at hx
  by_cases hcap : m = 0
  · subst hcap
    have : len = 0 := by omega
    subst this
    exact ⟨[], ⟨by simp, by simp⟩, rfl, rfl, rd_one .psz⟩
  -- the elements
  have hel : ∀ i, i < m → ∃ x : α, p x ∧ (f x).length = wd ∧ ∃ cv : Nat → Value, ∀ (j : Nat) (av : AV), (f x)[j]? = some av → W.cell? ((a.add (i * wd)).add j) = some (cv j) ∧ VR W (inW W) ι 0 (cv j) av := by
    intro i hi
    obtain ⟨cs', h1, h2⟩ := hx i hi
    obtain ⟨_, hlen, hcell⟩ := World.cells?_some h1
    obtain ⟨x, hp, h3, h4, h5⟩ := he W ι n cs' _ h2
    refine ⟨x, hp, h4, fun j => cs'.getD j default, fun j av hj => ?_⟩
    have hjl : j < wd := by
      have := (List.getElem?_eq_some_iff.1 hj).1
      omega
    have hcs : cs'[j]? = some (cs'.getD j default) := by
      rw [List.getD, List.getElem?_eq_getElem (by omega)]; rfl
    exact ⟨by rw [hcell j hjl]; exact hcs, h5 j _ av hcs hj⟩
  have hspot : wd = 0 ∨ a.spot = none ∧ a.block < W.heap.size := by
    by_cases hw : wd = 0
    · exact .inl hw
    · right
      obtain ⟨cs', h1, _⟩ := hx 0 (by omega)
      obtain ⟨_, hlen, hcell⟩ := World.cells?_some h1
      have h0 := hcell 0 (by omega)
      have e0 : (a.add (0 * wd)).add 0 = a := by simp [Addr.add]
      rw [e0, List.getElem?_eq_getElem (by omega)] at h0
      refine ⟨World.cell?_spot h0, ?_⟩
      unfold World.cell? at h0
      split at h0
      · rename_i hh
        exact (Array.getElem?_eq_some_iff.1 hh).1
      · cases h0
  obtain ⟨X, hX⟩ : ∃ X : List α, X.length = len ∧ ∀ (i : Nat) (x : α), X[i]? = some x → p x ∧ (f x).length = wd ∧ ∃ cv : Nat → Value, ∀ (j : Nat) (av : AV), (f x)[j]? = some av → W.cell? ((a.add (i * wd)).add j) = some (cv j) ∧ VR W (inW W) ι 0 (cv j) av := by
    have : ∀ k, k ≤ len → ∃ X : List α, X.length = k ∧ ∀ (i : Nat) (x : α), X[i]? = some x → p x ∧ (f x).length = wd ∧ ∃ cv : Nat → Value, ∀ (j : Nat) (av : AV), (f x)[j]? = some av → W.cell? ((a.add (i * wd)).add j) = some (cv j) ∧ VR W (inW W) ι 0 (cv j) av := by
      intro k
      induction k with
      | zero => exact fun _ => ⟨[], rfl, by simp⟩
      | succ k ih =>
        intro hk
        obtain ⟨X, h1, h2⟩ := ih (by omega)
        obtain ⟨x, hx1, hx2, hx3⟩ := hel k (by omega)
        refine ⟨X ++ [x], by simp [h1], fun i y hy => ?_⟩
        by_cases hi : i < X.length
        · rw [List.getElem?_append_left hi] at hy
          exact h2 i y hy
        · rw [List.getElem?_append_right (by omega)] at hy
          have hi0 : i - X.length = 0 := by
            have := (List.getElem?_eq_some_iff.1 hy).1
            simp at this; omega
          rw [hi0] at hy
          cases hy
          have : i = k := by omega
          subst this
          exact ⟨hx1, hx2, hx3⟩
    exact this len (Nat.le_refl _)
  obtain ⟨hXl, hXe⟩ := hX
  refine ⟨X, ⟨by rw [hXl]; exact Nat.le_trans hl hm, fun x hx => ?_⟩, rfl, rfl, ?_⟩
  · obtain ⟨i, hi, rfl⟩ := List.mem_iff_getElem.1 hx
    exact (hXe i _ (List.getElem?_eq_getElem hi)).1
  · refine rd_one ?_
    rcases hspot with hw | ⟨hsp, hblk⟩
    · omega
    · obtain ⟨b, off, sp⟩ := a
      simp only at hsp hblk
      subst hsp
      have hrow : ∀ (i : Nat) (row : List AV), (X.map f)[i]? = some row → ∃ x, X[i]? = some x ∧ row = f x := by
        intro i row hi
        rw [List.getElem?_map] at hi
        obtain ⟨x, h1, h2⟩ := Option.map_eq_some_iff.1 hi
        exact ⟨x, h1, h2.symm⟩
      have hadd : ∀ i j, ((⟨b, off, none⟩ : Addr).add (i * wd)).add j = ⟨b, off + (i * wd + j), none⟩ := by
        intro i j
        rw [add_add]
        unfold Addr.add
        split
        · rename_i h; rw [h]; rfl
        · rfl
      have hch : ∃ cv : Nat → Nat → Value, ∀ (i : Nat) (x : α), X[i]? = some x → ∀ (j : Nat) (av : AV), (f x)[j]? = some av → W.cell? ⟨b, off + (i * wd + j), none⟩ = some (cv i j) ∧ VR W (inW W) ι 0 (cv i j) av := by
        refine ⟨fun i j => (W.cell? ⟨b, off + (i * wd + j), none⟩).getD default, fun i x hi j av hj => ?_⟩
        obtain ⟨_, _, cv, hcv⟩ := hXe i x hi
        obtain ⟨h1, h2⟩ := hcv j av hj
        rw [hadd] at h1
        have hv : (W.cell? ⟨b, off + (i * wd + j), none⟩).getD default = cv j := by rw [h1]; rfl
        show W.cell? ⟨b, off + (i * wd + j), none⟩ = some ((W.cell? ⟨b, off + (i * wd + j), none⟩).getD default) ∧ VR W (inW W) ι 0 ((W.cell? ⟨b, off + (i * wd + j), none⟩).getD default) av
        rw [hv]
        exact ⟨h1, h2⟩
      obtain ⟨cv, hcv⟩ := hch
      have hXl' : len = (X.map f).length := by rw [List.length_map, hXl]
      show VR W (inW W) ι 0 (.slice (some ⟨b, off, none⟩) len m) (.ps (X.map f))
      rw [hXl']
      refine .ps wd cv (by rw [← hXl']; exact hl) hblk (fun i row hi => ?_) (fun i row hi j av hj => ?_) (fun i row hi j av hj => ?_)
      · obtain ⟨x, h1, rfl⟩ := hrow i row hi
        exact (hXe i x h1).2.1
      · obtain ⟨x, h1, rfl⟩ := hrow i row hi
        exact (hcv i x h1 j av hj).1
      · obtain ⟨x, h1, rfl⟩ := hrow i row hi
        exact (hcv i x h1 j av hj).2

theorem trod_struct {t : TypeId} {fs : Array Field} {W : World} {fuel : Nat} {cs : List Value} {y : DataW H × List MemPlace} (ht : P.underlying t = some (.struct fs)) (h : DataW.trod enc P W 0 (fun _ => true) true fuel t cs = some y) :
    cs.length = P.cellsOf t ∧ ∃ n xs, (fs.toList.mapM fun f => DataW.trod enc P W 0 (fun _ => true) true n f.type ((cs.drop f.offset).take (P.cellsOf f.type))) = some xs := by
  cases fuel with
  | zero => simp [DataW.trod] at h
  | succ n =>
    simp only [DataW.trod, ht] at h
    split at h
    · rename_i hl
      obtain ⟨xs, hx, _⟩ := Option.map_eq_some_iff.1 h
      exact ⟨hl, n, xs, hx⟩
    · cases h

theorem rd_split {W : World} {ι : Owns} {cs : List Value} {r1 r2 : List AV} {w : Nat} (h1 : r1.length = w) (g1 : ∀ (j : Nat) (v : Value) (a : AV), (cs.take w)[j]? = some v → r1[j]? = some a → VR W (inW W) ι 0 v a) (g2 : ∀ (j : Nat) (v : Value) (a : AV), (cs.drop w)[j]? = some v → r2[j]? = some a → VR W (inW W) ι 0 v a) :
    ∀ (j : Nat) (v : Value) (a : AV), cs[j]? = some v → (r1 ++ r2)[j]? = some a → VR W (inW W) ι 0 v a := by
  intro j v a hv ha
  by_cases hj : j < w
  · rw [List.getElem?_append_left (by omega)] at ha
    exact g1 j v a (by rw [List.getElem?_take, if_pos hj]; exact hv) ha
  · rw [List.getElem?_append_right (by omega), h1] at ha
    exact g2 (j - w) v a (by rw [List.getElem?_drop, show w + (j - w) = j by omega]; exact hv) ha

theorem rd_struct2 {t : TypeId} {F1 F2 : Field} {w1 w2 : Nat} {α β : Type} {f1 : α → List AV} {f2 : β → List AV} {p1 : α → Prop} {p2 : β → Prop} (ht : P.underlying t = some (.struct #[F1, F2])) (hc : P.cellsOf t = w1 + w2)
    (o1 : F1.offset = 0) (o2 : F2.offset = w1) (c1 : P.cellsOf F1.type = w1) (c2 : P.cellsOf F2.type = w2) (R1 : Rd enc P F1.type w1 f1 p1) (R2 : Rd enc P F2.type w2 f2 p2) :
    Rd enc P t (w1 + w2) (fun x : α × β => f1 x.1 ++ f2 x.2) (fun x => p1 x.1 ∧ p2 x.2) := by
  intro W ι fuel cs y hy
  obtain ⟨hl, n, xs, hx⟩ := trod_struct ht hy
  rw [hc] at hl
  simp only [List.mapM_cons, List.mapM_nil, Option.bind_eq_bind, Option.bind_eq_some_iff, o1, o2, c1, c2, List.drop_zero] at hx
  obtain ⟨y1, h1, _, ⟨y2, h2, _⟩, _⟩ := hx
  obtain ⟨x1, q1, l1, m1, g1⟩ := R1 W ι n _ _ h1
  obtain ⟨x2, q2, l2, m2, g2⟩ := R2 W ι n _ _ h2
  have e2 : (cs.drop w1).take w2 = cs.drop w1 := List.take_of_length_le (by rw [List.length_drop]; omega)
  rw [e2] at g2
  exact ⟨(x1, x2), ⟨q1, q2⟩, hl, by rw [List.length_append, m1, m2], rd_split m1 g1 g2⟩

theorem rd_struct3 {t : TypeId} {F1 F2 F3 : Field} {w1 w2 w3 : Nat} {α β γ : Type} {f1 : α → List AV} {f2 : β → List AV} {f3 : γ → List AV} {p1 : α → Prop} {p2 : β → Prop} {p3 : γ → Prop} (ht : P.underlying t = some (.struct #[F1, F2, F3])) (hc : P.cellsOf t = w1 + (w2 + w3))
    (o1 : F1.offset = 0) (o2 : F2.offset = w1) (o3 : F3.offset = w1 + w2) (c1 : P.cellsOf F1.type = w1) (c2 : P.cellsOf F2.type = w2) (c3 : P.cellsOf F3.type = w3) (R1 : Rd enc P F1.type w1 f1 p1) (R2 : Rd enc P F2.type w2 f2 p2) (R3 : Rd enc P F3.type w3 f3 p3) :
    Rd enc P t (w1 + (w2 + w3)) (fun x : α × β × γ => f1 x.1 ++ (f2 x.2.1 ++ f3 x.2.2)) (fun x => p1 x.1 ∧ p2 x.2.1 ∧ p3 x.2.2) := by
  intro W ι fuel cs y hy
  obtain ⟨hl, n, xs, hx⟩ := trod_struct ht hy
  rw [hc] at hl
  simp only [List.mapM_cons, List.mapM_nil, Option.bind_eq_bind, Option.bind_eq_some_iff, o1, o2, o3, c1, c2, c3, List.drop_zero] at hx
  obtain ⟨y1, h1, _, ⟨y2, h2, _, ⟨y3, h3, _⟩, _⟩, _⟩ := hx
  obtain ⟨x1, q1, l1, m1, g1⟩ := R1 W ι n _ _ h1
  obtain ⟨x2, q2, l2, m2, g2⟩ := R2 W ι n _ _ h2
  obtain ⟨x3, q3, l3, m3, g3⟩ := R3 W ι n _ _ h3
  have e3 : (cs.drop (w1 + w2)).take w3 = (cs.drop w1).drop w2 := by rw [List.drop_drop]; exact List.take_of_length_le (by rw [List.length_drop]; omega)
  rw [e3] at g3
  exact ⟨(x1, x2, x3), ⟨q1, q2, q3⟩, hl, by rw [List.length_append, List.length_append, m1, m2, m3], rd_split m1 g1 (rd_split m2 g2 g3)⟩

theorem rd_struct4 {t : TypeId} {F1 F2 F3 F4 : Field} {w1 w2 w3 w4 : Nat} {α β γ δ : Type} {f1 : α → List AV} {f2 : β → List AV} {f3 : γ → List AV} {f4 : δ → List AV} {p1 : α → Prop} {p2 : β → Prop} {p3 : γ → Prop} {p4 : δ → Prop} (ht : P.underlying t = some (.struct #[F1, F2, F3, F4])) (hc : P.cellsOf t = w1 + (w2 + (w3 + w4)))
    (o1 : F1.offset = 0) (o2 : F2.offset = w1) (o3 : F3.offset = w1 + w2) (o4 : F4.offset = w1 + w2 + w3) (c1 : P.cellsOf F1.type = w1) (c2 : P.cellsOf F2.type = w2) (c3 : P.cellsOf F3.type = w3) (c4 : P.cellsOf F4.type = w4) (R1 : Rd enc P F1.type w1 f1 p1) (R2 : Rd enc P F2.type w2 f2 p2) (R3 : Rd enc P F3.type w3 f3 p3) (R4 : Rd enc P F4.type w4 f4 p4) :
    Rd enc P t (w1 + (w2 + (w3 + w4))) (fun x : α × β × γ × δ => f1 x.1 ++ (f2 x.2.1 ++ (f3 x.2.2.1 ++ f4 x.2.2.2))) (fun x => p1 x.1 ∧ p2 x.2.1 ∧ p3 x.2.2.1 ∧ p4 x.2.2.2) := by
  intro W ι fuel cs y hy
  obtain ⟨hl, n, xs, hx⟩ := trod_struct ht hy
  rw [hc] at hl
  simp only [List.mapM_cons, List.mapM_nil, Option.bind_eq_bind, Option.bind_eq_some_iff, o1, o2, o3, o4, c1, c2, c3, c4, List.drop_zero] at hx
  obtain ⟨y1, h1, _, ⟨y2, h2, _, ⟨y3, h3, _, ⟨y4, h4, _⟩, _⟩, _⟩, _⟩ := hx
  obtain ⟨x1, q1, l1, m1, g1⟩ := R1 W ι n _ _ h1
  obtain ⟨x2, q2, l2, m2, g2⟩ := R2 W ι n _ _ h2
  obtain ⟨x3, q3, l3, m3, g3⟩ := R3 W ι n _ _ h3
  obtain ⟨x4, q4, l4, m4, g4⟩ := R4 W ι n _ _ h4
  have e4 : (cs.drop (w1 + w2 + w3)).take w4 = ((cs.drop w1).drop w2).drop w3 := by
    have hle : (cs.drop (w1 + w2 + w3)).length ≤ w4 := by rw [List.length_drop]; omega
    rw [List.take_of_length_le hle, List.drop_drop, List.drop_drop, Nat.add_assoc]
  have e3 : (cs.drop (w1 + w2)).take w3 = ((cs.drop w1).drop w2).take w3 := by rw [List.drop_drop]
  rw [e4] at g4
  rw [e3] at g3
  exact ⟨(x1, x2, x3, x4), ⟨q1, q2, q3, q4⟩, hl, by simp only [List.length_append, m1, m2, m3, m4], rd_split m1 g1 (rd_split m2 g2 (rd_split m3 g3 g4))⟩

def ι0 : Owns := fun _ => default

/-- An argument that is a struct. -/
theorem rd_agg {t : TypeId} {wd : Nat} {α : Type} {f : α → List AV} {p : α → Prop} (R : Rd enc P t wd f p) {W : World} {cs : Array Value} {d : DataW H} {ps : List MemPlace} (h : DataW.Trod enc P W 0 (fun _ => true) true t (.agg cs) d ps) :
    ∃ x : α, p x ∧ VR W (inW W) ι0 0 (.agg cs) (.agg (f x)) := by
  obtain ⟨fuel, hf⟩ := h
  obtain ⟨x, h1, h2, h3, h4⟩ := R W ι0 fuel _ _ hf
  refine ⟨x, h1, ?_⟩
  have e1 : (Value.agg cs).cells.toList = cs.toList := rfl
  rw [e1] at h2 h4
  have := VR.agg (w := W) (A := inW W) (ι := ι0) (n := 0) cs.toList (f x) (by rw [h2, h3]) h4
  exact this

/-- An argument of one cell. -/
theorem rd_cell {t : TypeId} {α : Type} {f : α → List AV} {p : α → Prop} (R : Rd enc P t 1 f p) {W : World} {v : Value} {d : DataW H} {ps : List MemPlace} (hv : v.cells = #[v]) (h : DataW.Trod enc P W 0 (fun _ => true) true t v d ps) :
    ∃ x : α, p x ∧ ∀ a, f x = [a] → VR W (inW W) ι0 0 v a := by
  obtain ⟨fuel, hf⟩ := h
  obtain ⟨x, h1, h2, h3, h4⟩ := R W ι0 fuel _ _ hf
  rw [hv] at h4
  exact ⟨x, h1, fun a ha => h4 0 v a rfl (by rw [ha]; rfl)⟩

theorem real_in (W : World) : Real W (inW W) ι0 St.empty :=
  ⟨fun id h => absurd h (Nat.not_lt_zero _), fun i j h => absurd h (Nat.not_lt_zero _), fun b _ ⟨id, h, _⟩ => absurd h (Nat.not_lt_zero _), fun b h => h, fun id _ => rfl⟩

/-- A call that says true, from its contract: it writes nothing that was there. -/
theorem calls_true {f : FuncId} {args : List AV} {vs : List Value} {W : World} (hvs : VRs W (inW W) ι0 0 vs args) (h : ∀ (e : Env) (σ : St) (K : KT), K (.lit (.bool true)) e σ → ACall P f args e σ K) :
    Calls P f vs.toArray W fun en W' => en = .returned (.bool true) ∧ Go.RowKit.Below W.heap.size W W' := by
  have hc := h (fun _ => .any) St.empty (fun a _ _ => a = .lit (.bool true)) rfl
  refine (hc.2 W (inW W) ι0 vs (real_in W) hvs).mono ?_
  rintro en W' ⟨v, rfl, A', ι', σ', av, hr, hx, hv, rfl⟩
  cases hv
  exact ⟨rfl, ⟨hx.os, hx.tape, hx.output, hx.size, fun k hk => hx.keep k hk (fun ⟨id, hid, _⟩ => absurd hid (Nat.not_lt_zero _))⟩⟩
end
end Go.Proofs.Qqz
