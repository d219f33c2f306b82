/- The trees in memory: their numbers, weights, values; what keeps them, what turns one. -/
import Derived.Test.YtdkgficmodcolaaHeapMath
import Derived.Test.YtdkgficmodcolaaWeights
namespace Go.Proofs.Ytdkgficmodcolaa
open Go.RowKit

/-- a tree: its number and weight, its values, the slice that holds them -/
structure Tr where
  key : Int × Int
  vals : List Int
  sl : Value
def intV (l : List Int) : List Value := l.map (Value.int .i64)
structure TreeAt (w : World) (base g : Nat) (t : Tr) : Prop where
  blk : Blk w g 58 #[.int .i64 t.key.1, .int .i64 t.key.2, t.sl]
  own : w.ownsRow base 3 1 t.sl t.vals.length (intV t.vals)
  n0 : 0 ≤ t.key.1 ∧ t.key.1 ≤ 256
  w0 : 0 ≤ t.key.2 ∧ t.key.2 ≤ 1073741824
  ge : base ≤ g
/-- some trees, each by its own -/
structure Fo (w : World) (base : Nat) (qs : List Nat) (T : Nat → Tr) : Prop where
  tr : ∀ g ∈ qs, TreeAt w base g (T g)
  nd : qs.Nodup
  apart : ∀ g ∈ qs, ∀ g' ∈ qs, g ≠ g' → ∀ b, (T g).sl.ownBlock = some b → (T g').sl.ownBlock ≠ some b
abbrev keyOf (T : Nat → Tr) (g : Nat) : Int × Int := (T g).key
def upd (T : Nat → Tr) (a : Nat) (t : Tr) : Nat → Tr := fun g => if g = a then t else T g
theorem upd_same (T : Nat → Tr) (a : Nat) (t : Tr) : upd T a t a = t := by simp [upd]
theorem upd_other (T : Nat → Tr) (a g : Nat) (t : Tr) (h : g ≠ a) : upd T a t g = T g := by simp [upd, h]
section
variable {w w' : World} {base gl gs cap g : Nat} {ps qs : List Nat} {T : Nat → Tr} {t : Tr} {key : Nat → Int × Int}
theorem TreeAt.keyAt (h : TreeAt w base g t) : KeyAt w g t.key := ⟨⟨_, h.blk⟩, h.n0, h.w0⟩
theorem TreeAt.below (h : TreeAt w base g t) (hb : Below w.heap.size w w') : TreeAt w' base g t := ⟨h.blk.below hb h.blk.lt, own_below h.own hb (Nat.le_refl _), h.n0, h.w0, h.ge⟩
theorem TreeAt.two (h : TreeAt w base g t) (hbox : Blk w gl 60 #[.slice (some ⟨gs, 0, none⟩) ps.length cap]) (hown : w.ownsRow base 56 1 (.slice (some ⟨gs, 0, none⟩) ps.length cap) ps.length (ptrV ps)) (h2 : Two w w' gl gs) : TreeAt w' base g t := by
  have e1 : g ≠ gl := fun e => by subst e; exact absurd (Blk.ne_ h.blk hbox (by decide)) (by simp)
  have e2 : g ≠ gs := fun e => by
    have := own_blk_ne hown h.blk (by decide)
    simp [Value.ownBlock] at this
    exact this e.symm
  have hv : ∀ b, t.sl.ownBlock = some b → b ≠ gl ∧ b ≠ gs := fun b hb => by
    refine ⟨fun e => ?_, fun e => ?_⟩
    · subst e; exact own_blk_ne h.own hbox (by decide) hb
    · subst e; exact own_apart h.own hown (by decide) b hb rfl
  refine ⟨(h2.block g h.blk.lt e1 e2).trans h.blk, ?_, h.n0, h.w0, h.ge⟩
  refine ⟨h.own.1, ?_⟩
  rcases h.own.2 with hn | ⟨b, cap', cur, hsl, hbb, hh, rest⟩
  · exact .inl hn
  · obtain ⟨f1, f2⟩ := hv b (by rw [hsl]; rfl)
    refine .inr ⟨b, cap', cur, hsl, hbb, ?_, rest⟩
    rw [h2.block b (Array.getElem?_eq_some_iff.1 hh).1 f1 f2]; exact hh
theorem Fo.two (h : Fo w base qs T) (hp : Hp w base gl gs cap ps key) (h2 : Two w w' gl gs) : Fo w' base qs T :=
  ⟨fun g hg => (h.tr g hg).two hp.box hp.own h2, h.nd, h.apart⟩
theorem Fo.below (h : Fo w base qs T) (hb : Below w.heap.size w w') : Fo w' base qs T := ⟨fun g hg => (h.tr g hg).below hb, h.nd, h.apart⟩
theorem Fo.perm {rs : List Nat} (h : Fo w base qs T) (hp : rs.Perm qs) : Fo w base rs T :=
  ⟨fun g hg => h.tr g (hp.mem_iff.1 hg), hp.nodup_iff.2 h.nd, fun g hg g' hg' => h.apart g (hp.mem_iff.1 hg) g' (hp.mem_iff.1 hg')⟩
theorem Fo.tail {a : Nat} (h : Fo w base (a :: qs) T) : Fo w base qs T :=
  ⟨fun g hg => h.tr g (by simp [hg]), (List.nodup_cons.1 h.nd).2, fun g hg g' hg' => h.apart g (by simp [hg]) g' (by simp [hg'])⟩
/-- another block is turned -/
theorem Fo.off {B : Nat} {t : TypeId} {cs : Array Value} (h : Fo w base qs T) (hB : Blk w B t cs) (ht : t ≠ 58) (ht3 : t ≠ 3) (hg : w.grownBy w' (some B)) : Fo w' base qs T :=
  ⟨fun g hgq => by
    have hT := h.tr g hgq
    refine ⟨hT.blk.grown hg (fun e => ?_), own_grown hT.own hg (fun k hk e => ?_), hT.n0, hT.w0, hT.ge⟩
    · injection e with e; subst e; exact absurd (Blk.ne_ hT.blk hB (fun e => ht e.symm)) (by simp)
    · injection e with e; subst e; exact own_blk_ne hT.own hB (fun e => ht3 e.symm) hk, h.nd, h.apart⟩
theorem Hp.off {B : Nat} {t : TypeId} {cs : Array Value} (h : Hp w base gl gs cap ps key) (hB : Blk w B t cs) (ht : t ≠ 60) (ht5 : t ≠ 56) (hps : B ∉ ps) (hg : w.grownBy w' (some B)) : Hp w' base gl gs cap ps key := by
  refine ⟨h.box.grown hg (fun e => ?_), own_grown h.own hg (fun k hk e => ?_), fun g hgp => ?_, h.few⟩
  · injection e with e; subst e; exact absurd (Blk.ne_ h.box hB (fun e => ht e.symm)) (by simp)
  · injection e with e; subst e; exact own_blk_ne h.own hB (fun e => ht5 e.symm) hk
  · obtain ⟨v, hv⟩ := (h.keys g hgp).at_
    exact ⟨⟨v, hv.grown hg (fun e => by injection e with e; subst e; exact hps hgp)⟩, (h.keys g hgp).n0, (h.keys g hgp).w0⟩
theorem Hp.keys_congr {key' : Nat → Int × Int} (h : Hp w base gl gs cap ps key) (he : ∀ g ∈ ps, key' g = key g) : Hp w base gl gs cap ps key' :=
  ⟨h.box, h.own, fun g hg => by rw [he g hg]; exact h.keys g hg, h.few⟩
/-- a tree's weight is turned -/
theorem Fo.weigh {a : Nat} {x : Int} (h : Fo w base qs T) (ha : a ∈ qs) (x0 : 0 ≤ x) (x1 : x ≤ 1073741824) :
    Fo (w.setCell ⟨a, 1, none⟩ (.int .i64 x)) base qs (upd T a ⟨((T a).key.1, x), (T a).vals, (T a).sl⟩) := by
  have hA := h.tr a ha
  have hg := grown_setCell w ⟨a, 1, none⟩ (.int .i64 x)
  refine ⟨fun g hgq => ?_, h.nd, fun g hgq g' hgq' hne b hb => ?_⟩
  · have hT := h.tr g hgq
    have hown : (w.setCell ⟨a, 1, none⟩ (.int .i64 x)).ownsRow base 3 1 (T g).sl (T g).vals.length (intV (T g).vals) := own_grown hT.own hg (fun k hk e => by injection e with e; subst e; exact own_blk_ne hT.own hA.blk (by decide) hk)
    by_cases e : g = a
    · subst e
      rw [upd_same]
      exact ⟨hA.blk.set_ 1 _, hown, hA.n0, ⟨x0, x1⟩, hA.ge⟩
    · rw [upd_other _ _ _ _ e]
      exact ⟨hT.blk.far (by simpa using e) _, hown, hT.n0, hT.w0, hT.ge⟩
  · have e1 : ∀ k, (upd T a ⟨((T a).key.1, x), (T a).vals, (T a).sl⟩ k).sl = (T k).sl := fun k => by
      by_cases e : k = a
      · subst e; rw [upd_same]
      · rw [upd_other _ _ _ _ e]
    rw [e1] at hb ⊢
    exact h.apart g hgq g' hgq' hne b hb
/-- a tree takes another's values on -/
theorem Fo.join {a b : Nat} {v' : Value} {ys : List Int} {w2 : World} (h : Fo w base (a :: b :: qs) T) (hg : w.grownBy w2 (T a).sl.ownBlock) (hor : v'.ownBlock = (T a).sl.ownBlock ∨ v'.ownBlock = some w.heap.size)
    (hown : w2.ownsRow base 3 1 v' ((T a).vals.length + ys.length) (intV (T a).vals ++ intV ys)) :
    Fo (w2.setCell ⟨a, 2, none⟩ v') base (a :: qs) (upd T a ⟨(T a).key, (T a).vals ++ ys, v'⟩) := by
  have hA := h.tr a (by simp)
  have hnd := h.nd
  have hab : a ∉ qs := fun e => by simp at hnd; exact hnd.1.2 e
  have hA2 : Blk w2 a 58 #[.int .i64 (T a).key.1, .int .i64 (T a).key.2, (T a).sl] := hA.blk.grown hg (fun e => own_blk_ne hA.own hA.blk (by decide) e.symm)
  have hg2 := grown_setCell w2 ⟨a, 2, none⟩ v'
  refine ⟨fun g hgq => ?_, ?_, fun g hgq g' hgq' hne k hk => ?_⟩
  · by_cases e : g = a
    · subst e
      rw [upd_same]
      refine ⟨hA2.set_ 2 v', ?_, hA.n0, hA.w0, hA.ge⟩
      have e2 : intV ((T g).vals ++ ys) = intV (T g).vals ++ intV ys := by simp [intV]
      simp only [List.length_append]
      rw [e2]
      exact own_grown hown hg2 (fun k hk e => by injection e with e; subst e; exact own_blk_ne hown hA2 (by decide) hk)
    · rw [upd_other _ _ _ _ e]
      have hgm : g ∈ a :: b :: qs := by
        rcases List.mem_cons.1 hgq with h1 | h1
        · exact absurd h1 e
        · simp [h1]
      have hT := h.tr g hgm
      have hT2 : Blk w2 g 58 #[.int .i64 (T g).key.1, .int .i64 (T g).key.2, (T g).sl] := hT.blk.grown hg (fun e => own_blk_ne hA.own hT.blk (by decide) e.symm)
      have ho2 := own_grown hT.own hg (fun k hk e' => h.apart a (by simp) g hgm (fun e'' => e e''.symm) k e' hk)
      exact ⟨hT2.far (by simpa using e) _, own_grown ho2 hg2 (fun k hk e => by injection e with e; subst e; exact own_blk_ne hT.own hA.blk (by decide) hk), hT.n0, hT.w0, hT.ge⟩
  · refine List.nodup_cons.2 ⟨hab, ?_⟩
    simp at hnd
    exact hnd.2.2
  · have hmem : ∀ g, g ∈ a :: qs → g ∈ a :: b :: qs := fun g hg => by
      rcases List.mem_cons.1 hg with h1 | h1
      · simp [h1]
      · simp [h1]
    have hlt : ∀ g, g ∈ a :: qs → ∀ k, (T g).sl.ownBlock = some k → k < w.heap.size := fun g hgq k hk => own_lt (h.tr g (hmem g hgq)).own k hk
    by_cases e1 : g = a
    · have e2 : g' ≠ a := fun e => hne (e1.trans e.symm)
      subst e1
      rw [upd_same] at hk
      rw [upd_other _ _ _ _ e2]
      simp only at hk
      intro hk'
      rcases hor with h1 | h1
      · rw [h1] at hk
        exact h.apart g (by simp) g' (hmem g' hgq') hne k hk hk'
      · rw [h1] at hk
        injection hk with hk
        have := hlt g' hgq' k hk'
        omega
    · rw [upd_other _ _ _ _ e1] at hk
      by_cases e2 : g' = a
      · subst e2
        rw [upd_same]
        simp only
        intro hk'
        rcases hor with h1 | h1
        · rw [h1] at hk'
          exact h.apart g' (by simp) g (hmem g hgq) (fun e => hne e.symm) k hk' hk
        · rw [h1] at hk'
          injection hk' with hk'
          have := hlt g hgq k hk
          omega
      · rw [upd_other _ _ _ _ e2]
        exact h.apart g (hmem g hgq) g' (hmem g' hgq') hne k hk
end
end Go.Proofs.Ytdkgficmodcolaa
