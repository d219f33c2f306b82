/- What joining the two least trees, again and again, gives: depths, in order, full, of the least cost. -/
import Derived.Test.YtdkgficmodcolaaSizes
import Derived.Test.YtdkgficmodcolaaOpt
namespace Go.Proofs.Ytdkgficmodcolaa

structure Nice (l : List Lf) (n : Nat) : Prop where
  nd : (l.flatMap (·.2)).Nodup
  ne : ∀ x ∈ l, x.2 ≠ []
  pos : ∀ x ∈ l, 0 < x.1.2
  vb : ∀ x ∈ l, ∀ u ∈ x.2, 0 ≤ u ∧ u.toNat < n
section
variable {l l' rest : List Lf} {n : Nat} {a b x : Lf}
theorem Nice.perm (h : Nice l n) (hp : l'.Perm l) : Nice l' n :=
  ⟨(hp.flatMap_right _).nodup_iff.2 h.nd, fun x hx => h.ne x (hp.mem_iff.1 hx), fun x hx => h.pos x (hp.mem_iff.1 hx), fun x hx => h.vb x (hp.mem_iff.1 hx)⟩
theorem Nice.joined (h : Nice (a :: b :: rest) n) : Nice (((a.1.1, a.1.2 + b.1.2), a.2 ++ b.2) :: rest) n := by
  refine ⟨?_, ?_, ?_, ?_⟩
  · have := h.nd
    simp only [List.flatMap_cons, ← List.append_assoc] at this ⊢
    exact this
  · intro x hx
    rcases List.mem_cons.1 hx with rfl | hx
    · have := h.ne a (by simp)
      simp [this]
    · exact h.ne x (by simp [hx])
  · intro x hx
    rcases List.mem_cons.1 hx with rfl | hx
    · have h1 := h.pos a (by simp)
      have h2 := h.pos b (by simp)
      simp only; omega
    · exact h.pos x (by simp [hx])
  · intro x hx u hu
    rcases List.mem_cons.1 hx with rfl | hx
    · rcases List.mem_append.1 hu with hu | hu
      · exact h.vb a (by simp) u hu
      · exact h.vb b (by simp) u hu
    · exact h.vb x (by simp [hx]) u hu
theorem Nice.fresh (h : Nice (x :: l) n) {v : Int} (hv : v ∈ x.2) : ∀ y ∈ l, v ∉ y.2 := fun y hy hv2 => by
  have := h.nd
  rw [List.flatMap_cons, List.nodup_append] at this
  exact this.2.2 v hv v (List.mem_flatMap.2 ⟨y, hy, hv2⟩) rfl
theorem Nice.notin (h : Nice (x :: l) n) : x ∉ l := fun hx => by
  obtain ⟨v, t, e⟩ := List.exists_cons_of_ne_nil (h.ne x (by simp))
  exact h.fresh (v := v) (by rw [e]; simp) x hx (by rw [e]; simp)
theorem Nice.tail (h : Nice (x :: l) n) : Nice l n := by
  refine ⟨?_, fun y hy => h.ne y (by simp [hy]), fun y hy => h.pos y (by simp [hy]), fun y hy => h.vb y (by simp [hy])⟩
  have := h.nd
  rw [List.flatMap_cons, List.nodup_append] at this
  exact this.2.1
theorem Nice.head (h : Nice (x :: l) n) : x.2.Nodup := by
  have := h.nd
  rw [List.flatMap_cons, List.nodup_append] at this
  exact this.1
end
theorem bump_at (vs : List Int) : ∀ out : List Int, vs.Nodup → (∀ u ∈ vs, 0 ≤ u ∧ u.toNat < out.length) → ∀ i : Nat, (bump out vs).getD i 0 = out.getD i 0 + if (i : Int) ∈ vs then 1 else 0 := by
  induction vs with
  | nil => intro out _ _ i; simp [bump]
  | cons v t ih =>
    intro out hnd hb i
    obtain ⟨h1, h2⟩ := List.nodup_cons.1 hnd
    obtain ⟨v0, v1⟩ := hb v (by simp)
    have e : bump out (v :: t) = bump (out.set v.toNat (out.getD v.toNat 0 + 1)) t := rfl
    rw [e, ih _ h2 (fun u hu => by rw [List.length_set]; exact hb u (by simp [hu])) i]
    rw [List.getD_eq_getElem?_getD, List.getElem?_set]
    by_cases hi : v.toNat = i
    · subst hi
      rw [if_pos rfl, if_pos v1]
      have hv : ((v.toNat : Nat) : Int) = v := by omega
      rw [hv, if_neg h1, if_pos (by simp)]
      simp
    · rw [if_neg hi, ← List.getD_eq_getElem?_getD]
      have hne : (i : Int) ≠ v := by omega
      by_cases hm : (i : Int) ∈ t
      · rw [if_pos hm, if_pos (by simp [hm])]
      · rw [if_neg hm, if_neg (by simp [hm, hne])]
/-- weights and depths -/
def pw (d : Lf → Nat) (l : List Lf) : List (Int × Nat) := l.map fun x => (x.1.2, d x)
theorem pw_perm {d : Lf → Nat} {l l' : List Lf} (h : l.Perm l') : (pw d l).Perm (pw d l') := h.map _
theorem pw_congr {d d' : Lf → Nat} {l : List Lf} (h : ∀ x ∈ l, d x = d' x) : pw d l = pw d' l := List.map_congr_left fun x hx => by rw [h x hx]
theorem lessK_w {x a : Int × Int} (h : lessK x a = false) : a.2 ≤ x.2 := by
  unfold lessK at h
  simp only [Bool.or_eq_false_iff, Bool.and_eq_false_iff, decide_eq_false_iff_not] at h
  omega
theorem cst_zero (l : List Lf) : cst (pw (fun _ => 0) l) = 0 := by
  induction l with
  | nil => rfl
  | cons x t ih =>
    have : pw (fun _ => 0) (x :: t) = (x.1.2, 0) :: pw (fun _ => 0) t := rfl
    rw [this, cst, ih]; simp
theorem cst_nonneg : ∀ p : List (Int × Nat), (∀ x ∈ p, 0 ≤ x.1) → 0 ≤ cst p
  | [], _ => by simp [cst]
  | x :: t, h => by
    have h1 := cst_nonneg t fun y hy => h y (by simp [hy])
    have h2 : 0 ≤ x.1 * (x.2 : Int) := Int.mul_nonneg (h x (by simp)) (by omega)
    simp only [cst]; omega
theorem take_weight {p : List (Int × Nat)} {w : Int} {t : List Int} (h : (p.map (·.1)).Perm (w :: t)) : ∃ (L : Nat) (q : List (Int × Nat)), p.Perm ((w, L) :: q) ∧ (q.map (·.1)).Perm t := by
  have hm : w ∈ p.map (·.1) := h.mem_iff.2 (by simp)
  obtain ⟨x, hx, e⟩ := List.mem_map.1 hm
  obtain ⟨p1, p2, rfl⟩ := List.append_of_mem hx
  have hp : (p1 ++ x :: p2).Perm (x :: (p1 ++ p2)) := List.perm_middle
  refine ⟨x.2, p1 ++ p2, ?_, ?_⟩
  · rw [← e]; exact hp
  · have h2 := (hp.map (·.1)).symm.trans h
    rw [List.map_cons, e] at h2
    exact h2.cons_inv
structure Dep (l : List Lf) (out R : List Int) (d : Lf → Nat) : Prop where
  val : ∀ x ∈ l, ∀ v ∈ x.2, R.getD v.toNat 0 = out.getD v.toNat 0 + d x
  off : ∀ i : Nat, (∀ x ∈ l, (i : Int) ∉ x.2) → R.getD i 0 = out.getD i 0
  i1 : ∀ x ∈ l, ∀ y ∈ l, y.1.2 < x.1.2 → d x ≤ d y
  i1' : ∀ x ∈ l, ∀ y ∈ l, y.1.2 ≤ x.1.2 → d x ≤ d y + 1
  i2 : ∀ x ∈ l, ∀ z ∈ l, x ≠ z → (∀ x' ∈ l, x' ≠ x → x' ≠ z → z.1.2 < x.1.2 + x'.1.2) → d x ≤ d z + 1
  i2' : ∀ x ∈ l, ∀ z ∈ l, x ≠ z → (∀ x' ∈ l, x' ≠ x → x' ≠ z → z.1.2 ≤ x.1.2 + x'.1.2) → d x ≤ d z + 2
  krf : l ≠ [] → ∀ K, l.length ≤ K + 1 → kr K (pw d l) = 2 ^ K
  dep : ∀ x ∈ l, d x + 1 ≤ l.length
  one : 2 ≤ l.length → ∀ x ∈ l, 1 ≤ d x
  opt : ∀ K p, (p.map (·.1)).Perm (l.map (·.1.2)) → (∀ x ∈ p, x.2 ≤ K) → kr K p ≤ 2 ^ K → cst (pw d l) ≤ cst p
theorem Dep.perm {l l' : List Lf} {out R : List Int} {d : Lf → Nat} (h : Dep l out R d) (hp : l'.Perm l) : Dep l' out R d where
  val x hx := h.val x (hp.mem_iff.1 hx)
  off i hi := h.off i fun x hx => hi x (hp.mem_iff.2 hx)
  i1 x hx y hy := h.i1 x (hp.mem_iff.1 hx) y (hp.mem_iff.1 hy)
  i1' x hx y hy := h.i1' x (hp.mem_iff.1 hx) y (hp.mem_iff.1 hy)
  i2 x hx z hz hne hall := h.i2 x (hp.mem_iff.1 hx) z (hp.mem_iff.1 hz) hne fun x' hx' => hall x' (hp.mem_iff.2 hx')
  i2' x hx z hz hne hall := h.i2' x (hp.mem_iff.1 hx) z (hp.mem_iff.1 hz) hne fun x' hx' => hall x' (hp.mem_iff.2 hx')
  krf hne K hK := by
    rw [kr_perm (pw_perm hp)]
    exact h.krf (fun e => hne (by rw [e] at hp; exact hp.eq_nil)) K (by rw [← hp.length_eq]; exact hK)
  dep x hx := by rw [hp.length_eq]; exact h.dep x (hp.mem_iff.1 hx)
  one h2 x hx := h.one (by rw [← hp.length_eq]; exact h2) x (hp.mem_iff.1 hx)
  opt K p h1 h2 h3 := by
    rw [cst_perm (pw_perm hp)]
    exact h.opt K p (h1.trans (hp.map _)) h2 h3
theorem Dep.zero {l : List Lf} {out : List Int} {n : Nat} (hn : Nice l n) (hl : l.length ≤ 1) : Dep l out out fun _ => 0 where
  val x _ v _ := by simp
  off _ _ := rfl
  i1 _ _ _ _ _ := Nat.le_refl _
  i1' _ _ _ _ _ := by omega
  i2 _ _ _ _ _ _ := by omega
  i2' _ _ _ _ _ _ := by omega
  krf hne K _ := by
    match l, hne, hl with
    | [x], _, _ => simp [pw, kr]
  dep x hx := by
    have := List.length_pos_of_mem hx
    omega
  one h2 := by omega
  opt K p h1 _ _ := by
    rw [cst_zero]
    refine cst_nonneg p fun x hx => ?_
    have : x.1 ∈ l.map (·.1.2) := h1.mem_iff.1 (List.mem_map_of_mem hx)
    obtain ⟨y, hy, e⟩ := List.mem_map.1 this
    have := hn.pos y hy
    omega
theorem Dep.step {rest : List Lf} {a b m : Lf} {out R : List Int} {d' : Lf → Nat} (hn : Nice (a :: b :: rest) out.length) (hm : m = ((a.1.1, a.1.2 + b.1.2), a.2 ++ b.2))
    (ha : ∀ x ∈ a :: b :: rest, a.1.2 ≤ x.1.2) (hb : ∀ x ∈ b :: rest, b.1.2 ≤ x.1.2) (h : Dep (m :: rest) (bump out (a.2 ++ b.2)) R d') :
    Dep (a :: b :: rest) out R (fun x => if x = a ∨ x = b then d' m + 1 else d' x) := by
  have hnj : Nice (m :: rest) out.length := by rw [hm]; exact hn.joined
  have hab : a ≠ b := fun e => hn.notin (by rw [e]; simp)
  have har : a ∉ rest := fun e => hn.notin (by simp [e])
  have hbr : b ∉ rest := hn.tail.notin
  have hmr : m ∉ rest := hnj.notin
  have hmw : m.1.2 = a.1.2 + b.1.2 := by rw [hm]
  have hmv : m.2 = a.2 ++ b.2 := by rw [hm]
  have pa := hn.pos a (by simp)
  have pb := hn.pos b (by simp)
  have hba := ha b (by simp)
  obtain ⟨d, hd⟩ : ∃ d : Lf → Nat, d = fun x => if x = a ∨ x = b then d' m + 1 else d' x := ⟨_, rfl⟩
  have da : d a = d' m + 1 := by rw [hd]; simp
  have db : d b = d' m + 1 := by rw [hd]; simp
  have dr : ∀ x ∈ rest, d x = d' x := fun x hx => by
    rw [hd]
    have h1 : x ≠ a := fun e => har (e ▸ hx)
    have h2 : x ≠ b := fun e => hbr (e ▸ hx)
    simp [h1, h2]
  have hmin : ∀ x ∈ rest, a.1.2 ≤ x.1.2 ∧ b.1.2 ≤ x.1.2 := fun x hx => ⟨ha x (by simp [hx]), hb x (by simp [hx])⟩
  have hlen := h.dep m (by simp)
  have hbv : ∀ i : Nat, (bump out (a.2 ++ b.2)).getD i 0 = out.getD i 0 + if (i : Int) ∈ a.2 ++ b.2 then 1 else 0 := bump_at _ out (by rw [← hmv]; exact hnj.head) (fun u hu => hnj.vb m (by simp) u (by rw [hmv]; exact hu))
  have split : ∀ {x : Lf}, x ∈ a :: b :: rest → x = a ∨ x = b ∨ x ∈ rest := fun hx => by simpa using hx
  rw [← hd]
  refine ⟨?_, ?_, ?_, ?_, ?_, ?_, ?_, ?_, ?_, ?_⟩
  · intro x hx v hv
    obtain ⟨v0, v1⟩ := hn.vb x hx v hv
    have ev : ((v.toNat : Nat) : Int) = v := by omega
    have hj : ∀ (hvm : v ∈ a.2 ++ b.2), R.getD v.toNat 0 = out.getD v.toNat 0 + ((d' m + 1 : Nat) : Int) := fun hvm => by
      rw [h.val m (by simp) v (by rw [hmv]; exact hvm), hbv, ev, if_pos hvm]
      omega
    rcases split hx with rfl | rfl | hx
    · rw [da]; exact hj (List.mem_append_left _ hv)
    · rw [db]; exact hj (List.mem_append_right _ hv)
    · have hnv : v ∉ a.2 ++ b.2 := fun hvm => hnj.fresh (by rw [hmv]; exact hvm) x hx hv
      rw [dr x hx, h.val x (by simp [hx]) v hv, hbv, ev, if_neg hnv]
      omega
  · intro i hi
    have hna := hi a (by simp)
    have hnb := hi b (by simp)
    rw [h.off i, hbv, if_neg (by simp [hna, hnb])]
    · simp
    · intro x hx
      rcases List.mem_cons.1 hx with rfl | hx
      · rw [hmv]; simp [hna, hnb]
      · exact hi x (by simp [hx])
  · intro x hx y hy hxy
    have hlow : ∀ x ∈ rest, ∀ y, (y = a ∨ y = b) → y.1.2 < x.1.2 → d' x ≤ d' m + 1 := fun x hx y hyab hxy => by
      refine h.i2 x (by simp [hx]) m (by simp) (fun e => hmr (e ▸ hx)) fun x' hx' hne hnm => ?_
      have hr : x' ∈ rest := by
        rcases List.mem_cons.1 hx' with e | e
        · exact absurd e hnm
        · exact e
      obtain ⟨q1, q2⟩ := hmin x hx
      obtain ⟨q3, q4⟩ := hmin x' hr
      rw [hmw]
      rcases hyab with rfl | rfl <;> omega
    rcases split hx with rfl | rfl | hxr <;> rcases split hy with rfl | rfl | hyr
    · exact Nat.le_refl _
    · omega
    · have := (hmin y hyr).1; omega
    · omega
    · exact Nat.le_refl _
    · have := (hmin y hyr).2; omega
    · rw [dr x hxr, da]; exact hlow x hxr _ (.inl rfl) hxy
    · rw [dr x hxr, db]; exact hlow x hxr _ (.inr rfl) hxy
    · rw [dr x hxr, dr y hyr]; exact h.i1 x (by simp [hxr]) y (by simp [hyr]) hxy
  · intro x hx y hy hxy
    have hlow : ∀ x ∈ rest, d' x ≤ d' m + 2 := fun x hx => by
      refine h.i2' x (by simp [hx]) m (by simp) (fun e => hmr (e ▸ hx)) fun x' hx' hne hnm => ?_
      have hr : x' ∈ rest := by
        rcases List.mem_cons.1 hx' with e | e
        · exact absurd e hnm
        · exact e
      obtain ⟨q1, q2⟩ := hmin x hx
      obtain ⟨q3, q4⟩ := hmin x' hr
      rw [hmw]; omega
    rcases split hx with rfl | rfl | hxr <;> rcases split hy with rfl | rfl | hyr
    · omega
    · omega
    · have := h.i1 m (by simp) y (by simp [hyr]) (by have := (hmin y hyr).1; rw [hmw]; omega)
      rw [da, dr y hyr]; omega
    · omega
    · omega
    · have := h.i1 m (by simp) y (by simp [hyr]) (by have := (hmin y hyr).2; rw [hmw]; omega)
      rw [db, dr y hyr]; omega
    · rw [dr x hxr, da]; have := hlow x hxr; omega
    · rw [dr x hxr, db]; have := hlow x hxr; omega
    · rw [dr x hxr, dr y hyr]; exact h.i1' x (by simp [hxr]) y (by simp [hyr]) hxy
  · intro x hx z hz hne hall
    have hlow : ∀ x ∈ rest, d' x ≤ d' m + 2 := fun x hx => by
      refine h.i2' x (by simp [hx]) m (by simp) (fun e => hmr (e ▸ hx)) fun x' hx' hne hnm => ?_
      have hr : x' ∈ rest := by
        rcases List.mem_cons.1 hx' with e | e
        · exact absurd e hnm
        · exact e
      obtain ⟨q1, q2⟩ := hmin x hx
      obtain ⟨q3, q4⟩ := hmin x' hr
      rw [hmw]; omega
    rcases split hx with rfl | rfl | hxr <;> rcases split hz with rfl | rfl | hzr
    · omega
    · omega
    · have hw := hall b (by simp) (fun e => hab e.symm) (fun e => hbr (e ▸ hzr))
      have := h.i1 m (by simp) z (by simp [hzr]) (by rw [hmw]; exact hw)
      rw [da, dr z hzr]; omega
    · omega
    · omega
    · have hw := hall a (by simp) hab (fun e => har (e ▸ hzr))
      have := h.i1 m (by simp) z (by simp [hzr]) (by rw [hmw]; omega)
      rw [db, dr z hzr]; omega
    · rw [dr x hxr, da]; have := hlow x hxr; omega
    · rw [dr x hxr, db]; have := hlow x hxr; omega
    · rw [dr x hxr, dr z hzr]
      refine h.i2 x (by simp [hxr]) z (by simp [hzr]) hne fun x' hxr' h1 h2 => ?_
      rcases List.mem_cons.1 hxr' with rfl | hxr'
      · have := hall a (by simp) (fun e => har (e ▸ hxr)) (fun e => har (e ▸ hzr))
        rw [hmw]; omega
      · exact hall x' (by simp [hxr']) h1 h2
  · intro x hx z hz hne hall
    have hlow : ∀ x ∈ rest, d' x ≤ d' m + 2 := fun x hx => by
      refine h.i2' x (by simp [hx]) m (by simp) (fun e => hmr (e ▸ hx)) fun x' hx' hne hnm => ?_
      have hr : x' ∈ rest := by
        rcases List.mem_cons.1 hx' with e | e
        · exact absurd e hnm
        · exact e
      obtain ⟨q1, q2⟩ := hmin x hx
      obtain ⟨q3, q4⟩ := hmin x' hr
      rw [hmw]; omega
    rcases split hx with rfl | rfl | hxr <;> rcases split hz with rfl | rfl | hzr
    · omega
    · omega
    · have hw := hall b (by simp) (fun e => hab e.symm) (fun e => hbr (e ▸ hzr))
      have := h.i1' m (by simp) z (by simp [hzr]) (by rw [hmw]; exact hw)
      rw [da, dr z hzr]; omega
    · omega
    · omega
    · have hw := hall a (by simp) hab (fun e => har (e ▸ hzr))
      have := h.i1' m (by simp) z (by simp [hzr]) (by rw [hmw]; omega)
      rw [db, dr z hzr]; omega
    · rw [dr x hxr, da]; have := hlow x hxr; omega
    · rw [dr x hxr, db]; have := hlow x hxr; omega
    · rw [dr x hxr, dr z hzr]
      refine h.i2' x (by simp [hxr]) z (by simp [hzr]) hne fun x' hxr' h1 h2 => ?_
      rcases List.mem_cons.1 hxr' with rfl | hxr'
      · have := hall a (by simp) (fun e => har (e ▸ hxr)) (fun e => har (e ▸ hzr))
        rw [hmw]; omega
      · exact hall x' (by simp [hxr']) h1 h2
  · intro _ K hK
    have h1 := h.krf (by simp) K (by simp at hK ⊢; omega)
    have e1 : pw d (a :: b :: rest) = (a.1.2, d' m + 1) :: (b.1.2, d' m + 1) :: pw d' rest := by
      rw [← pw_congr dr]
      simp only [pw, List.map_cons, da, db]
    have e2 : pw d' (m :: rest) = (m.1.2, d' m) :: pw d' rest := rfl
    rw [e2] at h1
    rw [e1]
    simp only [kr] at h1 ⊢
    simp only [List.length_cons] at hK hlen
    have e3 : 2 ^ (K - d' m) = 2 ^ (K - (d' m + 1)) * 2 := by rw [← Nat.pow_succ]; congr 1; omega
    rw [e3] at h1
    omega
  · intro x hx
    simp only [List.length_cons] at hlen ⊢
    rcases split hx with rfl | rfl | hx
    · rw [da]; omega
    · rw [db]; omega
    · have := h.dep x (by simp [hx])
      rw [dr x hx]
      simp only [List.length_cons] at this
      omega
  · intro _ x hx
    rcases split hx with rfl | rfl | hx
    · rw [da]; omega
    · rw [db]; omega
    · rw [dr x hx]
      exact h.one (by have := List.length_pos_of_mem hx; simp; omega) x (by simp [hx])
  · intro K p h1 h2 h3
    obtain ⟨La, p1, hp1, hq1⟩ := take_weight h1
    obtain ⟨Lb, q, hp2, hq2⟩ := take_weight hq1
    have hp : p.Perm ((a.1.2, La) :: (b.1.2, Lb) :: q) := hp1.trans (hp2.cons _)
    have hqm : ∀ x ∈ q, a.1.2 ≤ x.1 ∧ b.1.2 ≤ x.1 := fun x hx => by
      have : x.1 ∈ rest.map (·.1.2) := hq2.mem_iff.1 (List.mem_map_of_mem hx)
      obtain ⟨y, hy, e⟩ := List.mem_map.1 this
      rw [← e]; exact hmin y hy
    have hpK : ∀ x ∈ (a.1.2, La) :: (b.1.2, Lb) :: q, x.2 ≤ K := fun x hx => h2 x (hp.mem_iff.2 hx)
    obtain ⟨L, q', j1, j2, j3, j4, j5⟩ := huff_join K a.1.2 b.1.2 La Lb q (fun x hx => (hqm x hx).1) (fun x hx => (hqm x hx).2) (by omega) (by omega) (hpK (a.1.2, La) (by simp)) (hpK (b.1.2, Lb) (by simp)) (fun x hx => hpK x (by simp [hx])) (by rw [← kr_perm hp]; exact h3)
    have ho := h.opt K ((a.1.2 + b.1.2, L) :: q') (by simp only [List.map_cons, hmw]; exact (j1.trans hq2).cons _) (fun x hx => by
      rcases List.mem_cons.1 hx with rfl | hx
      · exact j2
      · exact j3 x hx) j4
    have e1 : pw d (a :: b :: rest) = (a.1.2, d' m + 1) :: (b.1.2, d' m + 1) :: pw d' rest := by
      rw [← pw_congr dr]
      simp only [pw, List.map_cons, da, db]
    have e2 : pw d' (m :: rest) = (m.1.2, d' m) :: pw d' rest := rfl
    rw [e2, hmw] at ho
    rw [e1, cst_perm hp]
    simp only [cst, Int.natCast_add, Int.mul_add, Int.add_mul] at ho j5 ⊢
    omega
theorem sizes_dep {l : List Lf} {out R : List Int} (h : SizesR l out R) : Nice l out.length → ∃ d, Dep l out R d := by
  induction h with
  | done hl => exact fun hn => ⟨_, Dep.zero hn hl⟩
  | @step l rest a b out R hp ha hb _ ih =>
    intro hn
    have hn2 := hn.perm hp.symm
    obtain ⟨d', h'⟩ := ih (by rw [bump_len]; exact hn2.joined)
    exact ⟨_, (Dep.step hn2 rfl (fun x hx => lessK_w (ha x (hp.mem_iff.2 hx))) (fun x hx => lessK_w (hb x hx)) h').perm hp⟩
end Go.Proofs.Ytdkgficmodcolaa
