/- sizes: the two least trees are joined, again and again. -/
import Derived.Test.YtdkgficmodcolaaForest
namespace Go.Proofs.Ytdkgficmodcolaa
open Go.RowKit

abbrev Lf : Type := (Int × Int) × List Int
def lfs (ps : List Nat) (T : Nat → Tr) : List Lf := ps.map fun g => ((T g).key, (T g).vals)
def bump (out : List Int) (vs : List Int) : List Int := vs.foldl (fun o v => o.set v.toNat (o.getD v.toNat 0 + 1)) out
theorem bump_len (vs : List Int) : ∀ out : List Int, (bump out vs).length = out.length := by
  induction vs with
  | nil => intro out; rfl
  | cons v t ih => intro out; simp only [bump, List.foldl_cons] at ih ⊢; rw [ih]; simp
theorem bump_snoc (out vs : List Int) (v : Int) : bump out (vs ++ [v]) = (bump out vs).set v.toNat ((bump out vs).getD v.toNat 0 + 1) := by simp [bump, List.foldl_append]
/-- what comes of some trees and sizes: R -/
inductive SizesR : List Lf → List Int → List Int → Prop
  | done {l : List Lf} {out : List Int} : l.length ≤ 1 → SizesR l out out
  | step {l rest : List Lf} {a b : Lf} {out R : List Int} : l.Perm (a :: b :: rest) → (∀ x ∈ l, lessK x.1 a.1 = false) → (∀ x ∈ b :: rest, lessK x.1 b.1 = false) →
      SizesR (((a.1.1, a.1.2 + b.1.2), a.2 ++ b.2) :: rest) (bump out (a.2 ++ b.2)) R → SizesR l out R
def leavesT (ws : List Int) (k : Nat) : List Lf := ((256, 1), [256]) :: ((List.range k).filter fun v => decide (0 < ws.getD v 0)).map fun (v : Nat) => (((v : Int), ws.getD v 0), [(v : Int)])
theorem leavesT_yes (ws : List Int) (k : Nat) (h : 0 < ws.getD k 0) : leavesT ws (k + 1) = leavesT ws k ++ [(((k : Int), ws.getD k 0), [(k : Int)])] := by
  unfold leavesT
  rw [List.range_succ, List.filter_append, List.map_append, List.cons_append]
  have e : [k].filter (fun v => decide (0 < ws.getD v 0)) = [k] := by rw [List.filter_cons, if_pos (by simpa using h)]; rfl
  rw [e]; rfl
theorem leavesT_no (ws : List Int) (k : Nat) (h : ¬ 0 < ws.getD k 0) : leavesT ws (k + 1) = leavesT ws k := by
  unfold leavesT
  rw [List.range_succ, List.filter_append]
  have e : [k].filter (fun v => decide (0 < ws.getD v 0)) = [] := by rw [List.filter_cons, if_neg (by simpa using h)]; rfl
  rw [e, List.append_nil]
theorem leavesT_len (ws : List Int) (k : Nat) : (leavesT ws k).length ≤ k + 1 := by
  unfold leavesT
  simp only [List.length_cons, List.length_map]
  have := List.length_filter_le (fun v => decide (0 < ws.getD v 0)) (List.range k)
  simp at this ⊢
  omega

theorem append_one {ops : Array Oper} {rest : List Oper} {o : Oper} {a : Act} {w : World} {Q : Exit → Act → World → Prop} {t e : TypeId} {z u : Value} {bytes : Nat} (hI : (Try.prog.info? e).map (fun i => (i.zero, i.size, i.bytes)) = some (some z, 1, bytes)) (hz1 : z.cells.size = 1)
    (ht : Try.prog.underlying t = some (.slice e)) (hgd : o.guard = none) (s x : Operand)
    (ho : o.op = .call { callee := .builtin .append, args := #[s, x], argTypes := #[t, t] }) (base : Nat) (v : Value) (n : Nat) (xs : List Value) (hs : a.eval s = v) (hown : w.ownsRow base e 1 v n xs)
    (g : Nat) (hx : a.eval x = .slice (some ⟨g, 0, none⟩) 1 1) (hB : Blk w g e #[u]) (hu : u.oneCell' = true) (hn : (n + 1) * bytes ≤ 140737488355328) (hn2 : n + 1 ≤ 140737488355328) (hbase : base ≤ w.heap.size)
    (h : ∀ v' w', w'.ownsRow base e 1 v' (n + 1) (xs ++ [u]) → w.grownBy w' v.ownBlock → wpList Try.prog ops Q rest (a.put o.dst v') w') : wpList Try.prog ops Q (o :: rest) a w :=
  wpList_plain hgd fun _ hK => wp_append1 hI hz1 ht s x ho base v n xs hs hown g hx hB hu hn hn2 hbase fun v' w' h1 h2 _ => hK _ _ (h v' w' h1 h2)
theorem Fo.add {w : World} {base g : Nat} {qs : List Nat} {T : Nat → Tr} {t : Tr} (h : Fo w base qs T) (ht : TreeAt w base g t) (hg : g ∉ qs) (hap : ∀ q ∈ qs, ∀ b, (T q).sl.ownBlock = some b → t.sl.ownBlock ≠ some b) : Fo w base (qs ++ [g]) (upd T g t) := by
  have hne : ∀ q ∈ qs, q ≠ g := fun q hq e => hg (e ▸ hq)
  refine ⟨fun q hq => ?_, ?_, fun q hq q' hq' hqq b hb => ?_⟩
  · rcases List.mem_append.1 hq with h1 | h1
    · rw [upd_other _ _ _ _ (hne q h1)]; exact h.tr q h1
    · obtain rfl := List.mem_singleton.1 h1
      rw [upd_same]; exact ht
  · rw [List.nodup_append]
    exact ⟨h.nd, by simp, fun a ha b hb e => by
      obtain rfl := List.mem_singleton.1 hb
      exact hg (e ▸ ha)⟩
  · rcases List.mem_append.1 hq with h1 | h1
    · rw [upd_other _ _ _ _ (hne q h1)] at hb
      rcases List.mem_append.1 hq' with h2 | h2
      · rw [upd_other _ _ _ _ (hne q' h2)]; exact h.apart q h1 q' h2 hqq b hb
      · obtain rfl := List.mem_singleton.1 h2
        rw [upd_same]; exact hap q h1 b hb
    · obtain rfl := List.mem_singleton.1 h1
      rw [upd_same] at hb
      rcases List.mem_append.1 hq' with h2 | h2
      · rw [upd_other _ _ _ _ (hne q' h2)]
        intro hb'
        exact hap q' h2 b hb' hb
      · obtain rfl := List.mem_singleton.1 h2
        exact absurd rfl hqq
/-- the first tree -/
def tr0 (n : Nat) : Tr := ⟨(256, 1), [256], .slice (some ⟨n, 0, none⟩) 1 1⟩
def startW (W : World) (z0 : Array Value) : World :=
  ((((((W.alloc (.cells z0 43)).alloc (.cells z0 43)).alloc (.cells #[.int .i64 256] 3)).alloc (.cells #[.int .i64 256, .int .i64 1, .slice (some ⟨W.heap.size + 1 + 1, 0, none⟩) 1 1] 58)).alloc (.cells #[.pointer (some ⟨W.heap.size + 1 + 1 + 1, 0, none⟩)] 56)).alloc (.cells #[.slice (some ⟨W.heap.size + 1 + 1 + 1 + 1, 0, none⟩) 1 1] 60))
theorem start_facts (W : World) (z0 : Array Value) : Hp (startW W z0) W.heap.size (W.heap.size + 1 + 1 + 1 + 1 + 1) (W.heap.size + 1 + 1 + 1 + 1) 1 [W.heap.size + 1 + 1 + 1] (keyOf fun _ => tr0 (W.heap.size + 1 + 1)) ∧ Fo (startW W z0) W.heap.size [W.heap.size + 1 + 1 + 1] (fun _ => tr0 (W.heap.size + 1 + 1)) ∧
    Blk (startW W z0) W.heap.size 43 z0 ∧ Blk (startW W z0) (W.heap.size + 1) 43 z0 ∧ Below W.heap.size W (startW W z0) := by
  have b0 := ((((((Blk.new W 43 z0).alloc (.cells z0 43)).alloc (.cells #[.int .i64 256] 3)).alloc (.cells #[.int .i64 256, .int .i64 1, .slice (some ⟨W.heap.size + 1 + 1, 0, none⟩) 1 1] 58)).alloc (.cells #[.pointer (some ⟨W.heap.size + 1 + 1 + 1, 0, none⟩)] 56)).alloc (.cells #[.slice (some ⟨W.heap.size + 1 + 1 + 1 + 1, 0, none⟩) 1 1] 60))
  have b1 := (((((Blk.new (W.alloc (.cells z0 43)) 43 z0).alloc (.cells #[.int .i64 256] 3)).alloc (.cells #[.int .i64 256, .int .i64 1, .slice (some ⟨W.heap.size + 1 + 1, 0, none⟩) 1 1] 58)).alloc (.cells #[.pointer (some ⟨W.heap.size + 1 + 1 + 1, 0, none⟩)] 56)).alloc (.cells #[.slice (some ⟨W.heap.size + 1 + 1 + 1 + 1, 0, none⟩) 1 1] 60))
  have b2 := ((((Blk.new ((W.alloc (.cells z0 43)).alloc (.cells z0 43)) 3 #[.int .i64 256]).alloc (.cells #[.int .i64 256, .int .i64 1, .slice (some ⟨W.heap.size + 1 + 1, 0, none⟩) 1 1] 58)).alloc (.cells #[.pointer (some ⟨W.heap.size + 1 + 1 + 1, 0, none⟩)] 56)).alloc (.cells #[.slice (some ⟨W.heap.size + 1 + 1 + 1 + 1, 0, none⟩) 1 1] 60))
  have b3 := (((Blk.new (((W.alloc (.cells z0 43)).alloc (.cells z0 43)).alloc (.cells #[.int .i64 256] 3)) 58 #[.int .i64 256, .int .i64 1, .slice (some ⟨W.heap.size + 1 + 1, 0, none⟩) 1 1]).alloc (.cells #[.pointer (some ⟨W.heap.size + 1 + 1 + 1, 0, none⟩)] 56)).alloc (.cells #[.slice (some ⟨W.heap.size + 1 + 1 + 1 + 1, 0, none⟩) 1 1] 60))
  have b4 := ((Blk.new ((((W.alloc (.cells z0 43)).alloc (.cells z0 43)).alloc (.cells #[.int .i64 256] 3)).alloc (.cells #[.int .i64 256, .int .i64 1, .slice (some ⟨W.heap.size + 1 + 1, 0, none⟩) 1 1] 58)) 56 #[.pointer (some ⟨W.heap.size + 1 + 1 + 1, 0, none⟩)]).alloc (.cells #[.slice (some ⟨W.heap.size + 1 + 1 + 1 + 1, 0, none⟩) 1 1] 60))
  have b5 := Blk.new (((((W.alloc (.cells z0 43)).alloc (.cells z0 43)).alloc (.cells #[.int .i64 256] 3)).alloc (.cells #[.int .i64 256, .int .i64 1, .slice (some ⟨W.heap.size + 1 + 1, 0, none⟩) 1 1] 58)).alloc (.cells #[.pointer (some ⟨W.heap.size + 1 + 1 + 1, 0, none⟩)] 56)) 60 #[.slice (some ⟨W.heap.size + 1 + 1 + 1 + 1, 0, none⟩) 1 1]
  simp only [World.size_alloc] at b0 b1 b2 b3 b4 b5
  have hbe : Below W.heap.size W (startW W z0) := by
    unfold startW
    exact ((((((Below.refl _ _).alloc (Nat.le_refl _) _).alloc (by simp) _).alloc (by simp; omega) _).alloc (by simp; omega) _).alloc (by simp; omega) _).alloc (by simp; omega) _
  have ht : TreeAt (startW W z0) W.heap.size (W.heap.size + 1 + 1 + 1) (tr0 (W.heap.size + 1 + 1)) :=
    ⟨b3, own_new (size := 1) (m := 1) b2 (by omega) (by decide) rfl, by simp [tr0], by simp [tr0], by omega⟩
  refine ⟨⟨b5, own_new (size := 1) (m := 1) b4 (by omega) (by decide) rfl, fun g hg => ?_, by simp⟩, ⟨fun g hg => ?_, by simp, fun g hg g' hg' hne => ?_⟩, b0, b1, hbe⟩
  · obtain rfl := List.mem_singleton.1 hg
    exact ht.keyAt
  · obtain rfl := List.mem_singleton.1 hg
    exact ht
  · obtain rfl := List.mem_singleton.1 hg
    obtain rfl := List.mem_singleton.1 hg'
    exact absurd rfl hne

def leafW (w : World) (k x : Int) : World :=
  (((w.alloc (.cells #[.int .i64 k] 3)).alloc (.cells #[.int .i64 k, .int .i64 x, .slice (some ⟨w.heap.size, 0, none⟩) 1 1] 58)).alloc (.cells #[.pointer (some ⟨w.heap.size + 1, 0, none⟩)] 56))
def leafT (n : Nat) (k x : Int) : Tr := ⟨(k, x), [k], .slice (some ⟨n, 0, none⟩) 1 1⟩
theorem leaf_facts (w : World) (base : Nat) (k x : Int) (hb : base ≤ w.heap.size) (k0 : 0 ≤ k ∧ k ≤ 256) (x0 : 0 ≤ x ∧ x ≤ 1073741824) :
    TreeAt (leafW w k x) base (w.heap.size + 1) (leafT w.heap.size k x) ∧ Blk (leafW w k x) (w.heap.size + 1 + 1) 56 #[.pointer (some ⟨w.heap.size + 1, 0, none⟩)] ∧ Below w.heap.size w (leafW w k x) := by
  have b1 := ((Blk.new w 3 #[.int .i64 k]).alloc (.cells #[.int .i64 k, .int .i64 x, .slice (some ⟨w.heap.size, 0, none⟩) 1 1] 58)).alloc (.cells #[.pointer (some ⟨w.heap.size + 1, 0, none⟩)] 56)
  have b2 := (Blk.new (w.alloc (.cells #[.int .i64 k] 3)) 58 #[.int .i64 k, .int .i64 x, .slice (some ⟨w.heap.size, 0, none⟩) 1 1]).alloc (.cells #[.pointer (some ⟨w.heap.size + 1, 0, none⟩)] 56)
  have b3 := Blk.new ((w.alloc (.cells #[.int .i64 k] 3)).alloc (.cells #[.int .i64 k, .int .i64 x, .slice (some ⟨w.heap.size, 0, none⟩) 1 1] 58)) 56 #[.pointer (some ⟨w.heap.size + 1, 0, none⟩)]
  simp only [World.size_alloc] at b2 b3
  refine ⟨⟨b2, own_new (size := 1) (m := 1) b1 hb (by decide) rfl, k0, x0, by omega⟩, b3, ?_⟩
  unfold leafW
  exact (((Below.refl _ _).alloc (Nat.le_refl _) _).alloc (by simp) _).alloc (by simp; omega) _
theorem Blk.two {w w' : World} {base gl gs cap g : Nat} {t : TypeId} {cs : Array Value} {ps : List Nat} {key : Nat → Int × Int} (h : Blk w g t cs) (hp : Hp w base gl gs cap ps key) (h2 : Two w w' gl gs) (ht : t ≠ 60) (ht5 : t ≠ 56) : Blk w' g t cs := by
  have e1 : g ≠ gl := fun e => by subst e; exact absurd (Blk.ne_ h hp.box ht) (by simp)
  have e2 : g ≠ gs := fun e => by
    have := own_blk_ne hp.own h (fun e => ht5 e.symm)
    simp [Value.ownBlock] at this
    exact this e.symm
  exact (h2.block g h.lt e1 e2).trans h
theorem Two.belowB {w0 w w' : World} {B gl gs : Nat} (h : Two w w' gl gs) (hb : Below B w0 w) (h1 : B ≤ gl) (h2 : B ≤ gs) (h3 : B ≤ w.heap.size) : Below B w0 w' :=
  hb.trans ⟨h.os, h.tape, h.output, h.size, fun k hk => h.block k (by omega) (by omega) (by omega)⟩
theorem lfs_add (ps : List Nat) (T : Nat → Tr) (g : Nat) (t : Tr) (hg : g ∉ ps) : lfs (ps ++ [g]) (upd T g t) = lfs ps T ++ [(t.key, t.vals)] := by
  unfold lfs
  rw [List.map_append]
  congr 1
  · refine List.map_congr_left fun q hq => ?_
    rw [upd_other _ _ _ _ (fun e => hg (by rw [← e]; exact hq))]
  · simp [upd]
theorem wpList_ran {P : Program} {ops : Array Oper} {rest : List Oper} {o : Oper} {a : Act} {w : World} {Q : Exit → Act → World → Prop} (hg : o.guard = none) (v : Value)
    (hrun : (execOp a.eval o).run P w = .ok (.value v) w) (h : wpList P ops Q rest (a.put o.dst v) w) : wpList P ops Q (o :: rest) a w :=
  wpList_plain hg fun _ hK => wp_ran hrun (hK _ _ h)
theorem run_index50 {a : Act} {w : World} {o : Oper} (x i : Operand) (ho : o.op = .index 50 x i) (z : List Int) (k : Nat) (hk : k < 256) (hz : z.length = 256) (hx : a.eval x = .agg (intsC z)) (hi : a.eval i = .int .i64 k) : (execOp a.eval o).run Try.prog w = .ok (.value (.int .i64 (z.getD k 0))) w := by
  unfold execOp
  simp only [ho, hx, hi, Sem.run_bind, run_index_arr (P := Try.prog) 50 3 256 (intsC z) .i64 k (.int .i64 (z.getD k 0)) Try.underlying50 hk (by kernel_rfl) Try.underlying3 (intsC_at z k (by omega)) w, Result.andThen_ok, Sem.run_pure]
theorem Two.drew {w w' : World} {a b : Nat} (h : Two w.drew w' a b) : Two w w' a b := ⟨h.os, h.tape, h.output, h.size, h.block⟩
theorem Hp.valsGrown {w w2 : World} {base gl gs cap n : Nat} {ps : List Nat} {key : Nat → Int × Int} {v : Value} {xs : List Value} (h : Hp w base gl gs cap ps key) (hown : w.ownsRow base 3 1 v n xs) (hg : w.grownBy w2 v.ownBlock) : Hp w2 base gl gs cap ps key :=
  ⟨h.box.grown hg (fun e => own_blk_ne hown h.box (by decide) e.symm), own_grown h.own hg (fun k hk e => own_apart hown h.own (by decide) k e hk), fun g hgp => by
    obtain ⟨u, hu⟩ := (h.keys g hgp).at_
    exact ⟨⟨u, hu.grown hg (fun e => own_blk_ne hown hu (by decide) e.symm)⟩, (h.keys g hgp).n0, (h.keys g hgp).w0⟩, h.few⟩
theorem info3 : (Try.prog.info? 3).map (fun i => (i.zero, i.size, i.bytes)) = some (some (.int .i64 0), 1, 8) := by kernel_rfl
theorem intV_one {l : List Int} : ∀ u ∈ intV l, u.oneCell' = true := fun u hu => by
  simp only [intV, List.mem_map] at hu
  obtain ⟨x, _, rfl⟩ := hu
  rfl
theorem SizesR.perm {l l' : List Lf} {out R : List Int} (hp : l'.Perm l) (h : SizesR l out R) : SizesR l' out R := by
  cases h with
  | done h => exact .done (by rw [hp.length_eq]; exact h)
  | step h1 h2 h3 h4 => exact .step (hp.trans h1) (fun x hx => h2 x (hp.mem_iff.1 hx)) h3 h4
def wSum : List Lf → Int
  | [] => 0
  | x :: t => x.1.2 + wSum t
def vSum : List Lf → Nat
  | [] => 0
  | x :: t => x.2.length + vSum t
theorem wSum_nonneg : ∀ l : List Lf, (∀ x ∈ l, 0 ≤ x.1.2) → 0 ≤ wSum l
  | [], _ => by simp [wSum]
  | x :: t, h => by
    have h1 := h x (by simp)
    have h2 := wSum_nonneg t (fun y hy => h y (by simp [hy]))
    simp only [wSum]; omega
theorem wSum_perm {l l' : List Lf} (h : l.Perm l') : wSum l = wSum l' := by
  induction h with
  | nil => rfl
  | cons x _ ih => simp only [wSum, ih]
  | swap x y l => simp only [wSum]; omega
  | trans _ _ h1 h2 => exact h1.trans h2
theorem vSum_perm {l l' : List Lf} (h : l.Perm l') : vSum l = vSum l' := by
  induction h with
  | nil => rfl
  | cons x _ ih => simp only [vSum, ih]
  | swap x y l => simp only [vSum]; omega
  | trans _ _ h1 h2 => exact h1.trans h2
theorem wSum_append (a b : List Lf) : wSum (a ++ b) = wSum a + wSum b := by
  induction a with
  | nil => simp [wSum]
  | cons x t ih => simp only [List.cons_append, wSum, ih]; omega
theorem vSum_append (a b : List Lf) : vSum (a ++ b) = vSum a + vSum b := by
  induction a with
  | nil => simp [vSum]
  | cons x t ih => simp only [List.cons_append, vSum, ih]; omega
/-- what bounds some trees and sizes -/
structure Bd (l : List Lf) (out : List Int) : Prop where
  w : wSum l ≤ 268435457
  w0 : ∀ x ∈ l, 0 ≤ x.1.2
  v : vSum l ≤ 257
  vb : ∀ x ∈ l, ∀ u ∈ x.2, 0 ≤ u ∧ u ≤ 256
  n : l.length ≤ 257
  o : ∀ i, 0 ≤ out.getD i 0 ∧ out.getD i 0 ≤ 257 * (257 - l.length : Nat)
  ol : out.length = 257
theorem leaves_bd (ws : List Int) (hwb : ∀ i, 0 ≤ ws.getD i 0 ∧ ws.getD i 0 ≤ 1048576) : ∀ k, k ≤ 256 → wSum (leavesT ws k) ≤ 1 + 1048576 * k ∧ vSum (leavesT ws k) ≤ 1 + k ∧ (∀ x ∈ leavesT ws k, 0 ≤ x.1.2 ∧ ∀ u ∈ x.2, 0 ≤ u ∧ u ≤ 256)
  | 0, _ => by
    have e : leavesT ws 0 = [((256, 1), [256])] := rfl
    rw [e]
    refine ⟨by decide, by decide, fun x hx => ?_⟩
    obtain rfl := List.mem_singleton.1 hx
    refine ⟨by decide, fun u hu => ?_⟩
    obtain rfl := List.mem_singleton.1 hu
    decide
  | k + 1, hk => by
    obtain ⟨h1, h2, h3⟩ := leaves_bd ws hwb k (by omega)
    have hb := hwb k
    by_cases h : 0 < ws.getD k 0
    · rw [leavesT_yes ws k h, wSum_append, vSum_append]
      refine ⟨by simp only [wSum]; omega, by simp only [vSum, List.length_singleton]; omega, fun x hx => ?_⟩
      rcases List.mem_append.1 hx with hx | hx
      · exact h3 x hx
      · obtain rfl := List.mem_singleton.1 hx
        refine ⟨by simp only; omega, fun u hu => ?_⟩
        obtain rfl := List.mem_singleton.1 hu
        omega
    · rw [leavesT_no ws k h]
      exact ⟨by omega, by omega, h3⟩
theorem Bd.start (ws : List Int) (hwb : ∀ i, 0 ≤ ws.getD i 0 ∧ ws.getD i 0 ≤ 1048576) : Bd (leavesT ws 256) (List.replicate 257 0) := by
  obtain ⟨h1, h2, h3⟩ := leaves_bd ws hwb 256 (Nat.le_refl _)
  refine ⟨by omega, fun x hx => (h3 x hx).1, by omega, fun x hx => (h3 x hx).2, leavesT_len ws 256, fun i => ?_, List.length_replicate⟩
  have e : (List.replicate 257 (0 : Int)).getD i 0 = 0 := by
    rw [List.getD_eq_getElem?_getD, List.getElem?_replicate]
    split <;> rfl
  rw [e]
  have := leavesT_len ws 256
  omega
theorem Bd.perm {l l' : List Lf} {out : List Int} (h : Bd l out) (hp : l'.Perm l) : Bd l' out :=
  ⟨by rw [wSum_perm hp]; exact h.w, fun x hx => h.w0 x (hp.mem_iff.1 hx), by rw [vSum_perm hp]; exact h.v, fun x hx => h.vb x (hp.mem_iff.1 hx), by rw [hp.length_eq]; exact h.n, by rw [hp.length_eq]; exact h.o, h.ol⟩
theorem bump_bd (vs : List Int) : ∀ (out : List Int) (m : Int), (∀ i, 0 ≤ out.getD i 0 ∧ out.getD i 0 ≤ m) → 0 ≤ m → ∀ i, 0 ≤ (bump out vs).getD i 0 ∧ (bump out vs).getD i 0 ≤ m + vs.length := by
  induction vs with
  | nil => intro out m h _ i; have := h i; simp [bump] at this ⊢; omega
  | cons v t ih =>
    intro out m h hm i
    have : bump out (v :: t) = bump (out.set v.toNat (out.getD v.toNat 0 + 1)) t := rfl
    rw [this]
    have := ih (out.set v.toNat (out.getD v.toNat 0 + 1)) (m + 1) (fun j => by
      rw [List.getD_eq_getElem?_getD, List.getElem?_set]
      split
      · have := h v.toNat
        split
        · simp only [Option.getD_some]; omega
        · simp; omega
      · have := h j
        rw [List.getD_eq_getElem?_getD] at this
        omega) (by omega) i
    simp only [List.length_cons]
    omega
theorem Bd.step {a b : Lf} {rest : List Lf} {out : List Int} (h : Bd (a :: b :: rest) out) : Bd (((a.1.1, a.1.2 + b.1.2), a.2 ++ b.2) :: rest) (bump out (a.2 ++ b.2)) := by
  have hw := h.w
  have hv := h.v
  have hn := h.n
  simp only [wSum] at hw
  simp only [vSum] at hv
  simp only [List.length_cons] at hn
  have ha := h.w0 a (by simp)
  have hb := h.w0 b (by simp)
  have hbb := bump_bd (a.2 ++ b.2) out (257 * (257 - (a :: b :: rest).length : Nat)) h.o (by omega)
  refine ⟨by simp only [wSum]; omega, fun x hx => ?_, by simp only [vSum, List.length_append]; omega, fun x hx u hu => ?_, by simp only [List.length_cons]; omega, fun i => ?_, by rw [bump_len]; exact h.ol⟩
  · rcases List.mem_cons.1 hx with rfl | h1
    · simp only; omega
    · exact h.w0 x (by simp [h1])
  · rcases List.mem_cons.1 hx with rfl | h1
    · rcases List.mem_append.1 hu with h2 | h2
      · exact h.vb a (by simp) u h2
      · exact h.vb b (by simp) u h2
    · exact h.vb x (by simp [h1]) u hu
  · have := hbb i
    simp only [List.length_cons, List.length_append] at this ⊢
    omega
def lenAt (w : World) (gl : Nat) : Nat := match w.cell? ⟨gl, 0, none⟩ with
  | some (.slice _ n _) => n
  | _ => 0
theorem Hp.lenAt {w : World} {base gl gs cap : Nat} {ps : List Nat} {key : Nat → Int × Int} (h : Hp w base gl gs cap ps key) : lenAt w gl = ps.length := by
  unfold Ytdkgficmodcolaa.lenAt
  have := h.box.cell 0
  simp only [List.getElem?_toArray, List.getElem?_cons_zero] at this
  rw [this]

theorem lfs_cons (a : Nat) (ps : List Nat) (T : Nat → Tr) : lfs (a :: ps) T = ((T a).key, (T a).vals) :: lfs ps T := rfl
theorem lfs_congr {ps : List Nat} {T T2 : Nat → Tr} (h : ∀ g ∈ ps, T2 g = T g) : lfs ps T2 = lfs ps T := List.map_congr_left fun g hg => by rw [h g hg]
theorem round_perm {ps2 ps3 : List Nat} {T T2 : Nat → Tr} {a b : Nat} {sl : Value} (hT2a : T2 a = ⟨((T a).key.1, (T a).key.2 + (T b).key.2), (T a).vals ++ (T b).vals, sl⟩) (hT2o : ∀ g ∈ ps2, T2 g = T g) (h3 : ps3.Perm (ps2 ++ [a])) :
    (lfs ps3 T2).Perm ((((T a).key.1, (T a).key.2 + (T b).key.2), (T a).vals ++ (T b).vals) :: lfs ps2 T) := by
  have h1 : (lfs ps3 T2).Perm (lfs (a :: ps2) T2) := (h3.trans List.perm_append_comm).map _
  rw [lfs_cons, lfs_congr hT2o, hT2a] at h1
  exact h1
theorem round_sizes {ps ps1 ps2 ps3 : List Nat} {T T2 : Nat → Tr} {a b : Nat} {sl : Value} {out R : List Int} (hpm : ps.Perm (a :: b :: ps2)) (hm1 : ∀ x ∈ ps, lessK (keyOf T x) (keyOf T a) = false) (hm2 : ∀ x ∈ ps1, lessK (keyOf T x) (keyOf T b) = false) (hr3 : (ps2 ++ [b]).Perm ps1)
    (hT2a : T2 a = ⟨((T a).key.1, (T a).key.2 + (T b).key.2), (T a).vals ++ (T b).vals, sl⟩) (hT2o : ∀ g ∈ ps2, T2 g = T g) (h3 : ps3.Perm (ps2 ++ [a])) (h : SizesR (lfs ps3 T2) (bump out ((T a).vals ++ (T b).vals)) R) : SizesR (lfs ps T) out R := by
  refine SizesR.step (a := ((T a).key, (T a).vals)) (b := ((T b).key, (T b).vals)) (rest := lfs ps2 T) (hpm.map _) (fun x hx => ?_) (fun x hx => ?_) (SizesR.perm (round_perm hT2a hT2o h3).symm h)
  · obtain ⟨g, hg, rfl⟩ := List.mem_map.1 hx
    exact hm1 g hg
  · obtain ⟨g, hg, rfl⟩ := List.mem_map.1 (show x ∈ lfs (b :: ps2) T from hx)
    refine hm2 g (hr3.mem_iff.1 ?_)
    rcases List.mem_cons.1 hg with rfl | h1
    · simp
    · simp [h1]
theorem round_bd {ps2 ps3 : List Nat} {T T2 : Nat → Tr} {a b : Nat} {sl : Value} {out : List Int} (hbd : Bd (((T a).key, (T a).vals) :: ((T b).key, (T b).vals) :: lfs ps2 T) out)
    (hT2a : T2 a = ⟨((T a).key.1, (T a).key.2 + (T b).key.2), (T a).vals ++ (T b).vals, sl⟩) (hT2o : ∀ g ∈ ps2, T2 g = T g) (h3 : ps3.Perm (ps2 ++ [a])) : Bd (lfs ps3 T2) (bump out ((T a).vals ++ (T b).vals)) :=
  (hbd.step).perm (round_perm hT2a hT2o h3)
theorem HeapFrom.congr_keys {key key' : Nat → Int × Int} {ps : List Nat} (h : HeapFrom key 0 ps.length ps) (he : ∀ g ∈ ps, key' g = key g) : HeapFrom key' 0 ps.length ps := fun j h1 h2 h3 => by
  have hm : ∀ m, m < ps.length → ps.getD m 0 ∈ ps := fun m hm => by
    rw [List.getD_eq_getElem?_getD, List.getElem?_eq_getElem hm]; exact List.getElem_mem hm
  have hp : par j < ps.length := by unfold par; omega
  rw [he _ (hm j h2), he _ (hm _ hp)]
  exact h j h1 h2 h3
theorem intV_at {l : List Int} {k : Nat} {u : Value} (h : (intV l)[k]? = some u) : ∃ x, l[k]? = some x ∧ u = .int .i64 x := by
  simp only [intV, List.getElem?_map, Option.map_eq_some_iff] at h
  obtain ⟨x, h1, rfl⟩ := h
  exact ⟨x, h1, rfl⟩
theorem take_more {l : List Int} {k : Nat} {x : Int} (h : l[k]? = some x) : l.take (k + 1) = l.take k ++ [x] := by
  rw [List.take_add_one, h]; rfl
theorem bump_nonneg_le {out : List Int} {l : List Lf} (h : Bd l out) {vs : List Int} (hv : vs.length ≤ 257) (i : Nat) : 0 ≤ (bump out vs).getD i 0 ∧ (bump out vs).getD i 0 ≤ 66500 := by
  have h1 := bump_bd vs out (257 * (257 - l.length : Nat)) h.o (by omega) i
  omega

set_option maxRecDepth 100000 in
set_option maxHeartbeats 2000000 in
theorem sizes_any (A : Option Addr) (c len : Nat) (l : List Int) (W : World) (hlen : l.length = len) (hw : WfInts l) (hr : Reads W W.heap.size 1 A len (l.map (Value.int .i64))) (hl : len ≤ 9223372036854775807) :
    Calls Try.prog 15 #[.slice A len c] W fun e w' => ∃ R, e = .returned (.agg (intsC R)) ∧ SizesR (leavesT (weightsS l) 256) (List.replicate 257 0) R ∧ R.length = 257 ∧ Below W.heap.size W w' := by
  have hz43 := zero43
  have KW := Lib.hid (fun w (h : Below W.heap.size W w) => weights_any A c len l w hlen hw ((hr.below h).more h.size) hl)
  have hsz : (Try.prog.info? 43).map (·.size) = some (intsC (List.replicate 257 0)).size := size43 _ (by simp)
  obtain ⟨z0, hz0⟩ : ∃ z0, z0 = intsC (List.replicate 257 0) := ⟨_, rfl⟩
  rw [← hz0] at hz43 hsz
  obtain ⟨hp, hfo, hB0, hB1, hbe⟩ := start_facts W z0
  have HZ0 := Lib.hid hz0
  have hws := weightsS_len l
  obtain ⟨ws, hwse⟩ : ∃ ws, ws = weightsS l := ⟨_, rfl⟩
  rw [← hwse] at KW hws ⊢
  have hwb : ∀ i, 0 ≤ ws.getD i 0 ∧ ws.getD i 0 ≤ 1048576 := fun i => by
    rw [hwse, List.getD_eq_getElem?_getD]
    by_cases hi : i < 256
    · rw [weightsS, List.getElem?_map, List.getElem?_range hi]
      show 0 ≤ clipW _ ∧ clipW _ ≤ 1048576
      unfold clipW; omega
    · rw [List.getElem?_eq_none (by rw [weightsS_len]; omega)]; simp
  have HWB := Lib.hid hwb
  have HWS := Lib.hid hws
  clear hz0 hwse hwb hws hr hw
  go_enter Try.func15, Try.ntmps15
  go_wp2_with fail
  go_at_call 20
  change Calls Try.prog 20 _ (startW W z0) _
  generalize startW W z0 = w6 at *
  refine (KW.out _ hbe).mono ?_
  rintro e w7 ⟨rfl, hb7⟩
  have hp7 := hp.below hb7
  have hfo7 := hfo.below hb7
  have hB07 := hB0.below hb7 hB0.lt
  have hB17 := hB1.below hb7 hB1.lt
  have hbe7 := hbe.trans (hb7.mono hbe.size)
  clear hp hfo hB0 hB1 hbe hb7 KW
  go_wp2_with fail
  obtain ⟨gl, hgl⟩ : ∃ gl, gl = W.heap.size + 1 + 1 + 1 + 1 + 1 := ⟨_, rfl⟩
  rw [← hgl] at hp7 ⊢
  have hglb : W.heap.size + 2 ≤ gl := by omega
  have hlf : lfs [W.heap.size + 1 + 1 + 1] (fun _ => tr0 (W.heap.size + 1 + 1)) = leavesT ws 0 := rfl
  clear hgl
  go_loopw [17] (fun v17 (w : World) => ∃ (k : Nat) (ps : List Nat) (T : Nat → Tr) (gs cap : Nat), k ≤ 256 ∧ v17 = .int .i64 k ∧ Hp w W.heap.size gl gs cap ps (keyOf T) ∧ Fo w W.heap.size ps T ∧ lfs ps T = leavesT ws k ∧ Blk w W.heap.size 43 z0 ∧ Blk w (W.heap.size + 1) 43 z0 ∧ Below W.heap.size W w) (fun v17 _ => 256 - (intOf v17).toNat)
  case atStart => exact ⟨0, _, _, _, _, by omega, rfl, hp7, hfo7, hlf, hB07, hB17, hbe7⟩
  case round =>
    clear hp7 hfo7 hB07 hB17 hbe7 hlf
    obtain ⟨k, ps, T, gs, cap, hk, rfl, hp, hfo, hlf, hB0, hB1, hbe⟩ := hrel
    by_cases hlt : k < 256
    · obtain ⟨x, hx⟩ : ∃ x, x = ws.getD k 0 := ⟨_, rfl⟩
      have HIX : Hid (∀ (a : Act) (w : World) (o : Oper), o.op = .index 50 (.tmp 16) (.tmp 17) → a.eval (.tmp 16) = .agg (intsC ws) → a.eval (.tmp 17) = .int .i64 k → (execOp a.eval o).run Try.prog w = .ok (.value (.int .i64 x)) w) := Lib.hid (fun a w o h1 h2 h3 => by rw [hx]; exact run_index50 _ _ h1 ws k hlt HWS.out h2 h3)
      obtain ⟨x0, x1⟩ := HWB.out k
      rw [← hx] at x0 x1
      have HX := Lib.hid hx
      clear hx
      by_cases hpos : 0 < x
      · obtain ⟨ht3, hn3, hb3⟩ := leaf_facts wr W.heap.size (k : Int) x hbe.size (by omega) (by omega)
        have hgn : wr.heap.size + 1 ∉ ps := fun e => by
          have := (hfo.tr _ e).blk.lt
          omega
        have hgl' : wr.heap.size + 1 ≠ gl := by have := hp.box.lt; omega
        have hgs' : wr.heap.size + 1 ≠ gs := by have := hp.lt; omega
        have hp3 := (hp.below hb3).keys_congr (key' := keyOf (upd T (wr.heap.size + 1) (leafT wr.heap.size k x))) (fun g hg => by unfold keyOf; rw [upd_other _ _ _ _ (fun e => hgn (by rw [← e]; exact hg))])
        have hk3 : KeyAt (leafW wr k x) (wr.heap.size + 1) (keyOf (upd T (wr.heap.size + 1) (leafT wr.heap.size k x)) (wr.heap.size + 1)) := by unfold keyOf; rw [upd_same]; exact ht3.keyAt
        have hfo3 := (hfo.below hb3).add ht3 hgn (fun q hq b hb e => by
          have := own_lt (hfo.tr q hq).own b hb
          simp [leafT, Value.ownBlock] at e
          omega)
        have hlf3 : lfs (ps ++ [wr.heap.size + 1]) (upd T (wr.heap.size + 1) (leafT wr.heap.size k x)) = leavesT ws (k + 1) := by
          rw [lfs_add _ _ _ _ hgn, hlf, leavesT_yes _ _ (by rw [← HX.out]; exact hpos), ← HX.out]
          rfl
        have hpl : ps.length + 1 ≤ 1000 := by
          have e : ps.length = (leavesT ws k).length := by rw [← hlf]; simp [lfs]
          have := leavesT_len ws k
          omega
        have hB03 := hB0.below hb3 hB0.lt
        have hB13 := hB1.below hb3 hB1.lt
        have hbe3 := hbe.trans (hb3.mono hbe.size)
        have hbox := hp.box.cell 0
        simp only [List.getElem?_toArray, List.getElem?_cons_zero] at hbox
        have hsz3 := hbe3.size
        have hgsb : W.heap.size ≤ gs := own_ge hp.own gs rfl
        obtain ⟨w3, hw3⟩ : ∃ w3, w3 = leafW wr k x := ⟨_, rfl⟩
        rw [← hw3] at hp3 hk3 hfo3 hB03 hB13 hbe3 hsz3 hn3
        have HW3 := Lib.hid hw3
        obtain ⟨T', hT'⟩ : ∃ T', T' = upd T (wr.heap.size + 1) (leafT wr.heap.size k x) := ⟨_, rfl⟩
        rw [← hT'] at hp3 hk3 hfo3 hlf3
        have HLF := Lib.hid hlf3
        clear hw3 hT' ht3 hb3 hp hfo hlf hlf3 hB0 hB1 hbe
        go_wp2_with (first | (refine wpList_ran rfl (.int .i64 x) (HIX.out _ _ _ rfl rfl rfl) ?_) | (change wpList _ _ _ _ _ (leafW wr k x); rw [← HW3.out]; refine append_one info56 rfl Try.underlying60 rfl (.tmp 23) (.tmp 30) rfl W.heap.size (.slice (some ⟨gs, 0, none⟩) ps.length cap) ps.length (ptrV ps) rfl hp3.own (wr.heap.size + 1 + 1) rfl hn3 rfl (by omega) (by omega) hsz3 ?_; intro v4 w4 hown4 hg4; obtain ⟨gs4, cap4, rfl⟩ := own_slice' hown4 (by omega); have hbox4 := hp3.box.grown hg4 (fun e => hp3.ne (by injection e)); have hbc4 := hbox4.cell 0; have hbf4 := hbox4.frozen 0))
        have hp5 := hp3.pushed hg4 hk3 hgs' hgl' hown4 hpl
        have h2 : Two w3 (w4.setCell ⟨gl, 0, none⟩ (.slice (some ⟨gs4, 0, none⟩) (ps.length + 1) cap4)) gl gs := (Two.right gl hg4).trans (Two.left gs (grown_setCell w4 ⟨gl, 0, none⟩ _))
        have hfo5 := hfo3.two hp3 h2
        have hB05 := hB03.two hp3 h2 (by decide) (by decide)
        have hB15 := hB13.two hp3 h2 (by decide) (by decide)
        have hbe5 := h2.belowB hbe3 (by omega) hgsb hsz3
        go_roundw
        case rel => exact ⟨k + 1, _, T', gs4, cap4, by omega, by go_num, hp5, hfo5, HLF.out, hB05, hB15, hbe5⟩
        case measure => simp [intOf]; omega
      · have hle : ¬ 0 < x := hpos
        go_wp2_with (refine wpList_ran rfl (.int .i64 x) (HIX.out _ _ _ rfl rfl rfl) ?_)
        go_roundw
        case rel => exact ⟨k + 1, ps, T, gs, cap, by omega, by go_num, hp, hfo, by rw [leavesT_no _ _ (by rw [← HX.out]; exact hpos)]; exact hlf, hB0, hB1, hbe⟩
        case measure => simp [intOf]; omega
    · obtain rfl : k = 256 := by omega
      have hpl1 : 1 ≤ ps.length := by
        have e : ps.length = (leavesT ws 256).length := by rw [← hlf]; simp [lfs]
        rw [e]; simp [leavesT]
      have KI := Lib.hid (hinit_any W.heap.size gl gs cap ps (keyOf T) wr hp hpl1)
      have hbd := Bd.start ws HWB.out
      clear hpl1
      go_wp2_with fail
      go_at_call 22
      refine KI.out.mono ?_
      rintro e w9 ⟨rfl, hp9, hg9⟩
      have hgsb : W.heap.size ≤ gs := own_ge hp.own gs rfl
      have h2 := Two.right gl hg9
      have hfo9 := (hfo.two hp h2).perm (initS_perm (keyOf T) ps.length (ps.length / 2) ps rfl (by omega))
      have hB09 := hB0.two hp h2 (by decide) (by decide)
      have hB19 := hB1.two hp h2 (by decide) (by decide)
      have hbe9 := h2.belowB hbe (by omega) hgsb hbe.size
      have hhp9 := heap_init (keyOf T) ps
      have hpm : (initS (keyOf T) ps.length (ps.length / 2) ps).Perm ps := initS_perm (keyOf T) ps.length (ps.length / 2) ps rfl (by omega)
      have hlp : (lfs (initS (keyOf T) ps.length (ps.length / 2) ps) T).Perm (leavesT ws 256) := by rw [← hlf]; exact hpm.map _
      have hil : (initS (keyOf T) ps.length (ps.length / 2) ps).length = ps.length := initS_length _ _ _ _
      replace hhp9 : HeapFrom (keyOf T) 0 (initS (keyOf T) ps.length (ps.length / 2) ps).length (initS (keyOf T) ps.length (ps.length / 2) ps) := by rw [hil]; exact hhp9
      obtain ⟨ps9, hps9⟩ : ∃ ps9, ps9 = initS (keyOf T) ps.length (ps.length / 2) ps := ⟨_, rfl⟩
      rw [← hps9] at hp9 hfo9 hhp9 hlp
      have hbd9 := hbd.perm hlp
      have HLP := Lib.hid hlp
      rw [HZ0.out] at hB19
      clear hp hfo hB0 hB1 hbe hlf hbd hg9 h2 KI hpm hil hps9 hlp
      go_wp2_with fail
      go_loopw [7] (fun _ (w : World) => ∃ (ps : List Nat) (T : Nat → Tr) (gs cap : Nat) (out : List Int), Hp w W.heap.size gl gs cap ps (keyOf T) ∧ Fo w W.heap.size ps T ∧ HeapFrom (keyOf T) 0 ps.length ps ∧ (∀ R, SizesR (lfs ps T) out R → SizesR (leavesT ws 256) (List.replicate 257 0) R) ∧ Bd (lfs ps T) out ∧ Blk w W.heap.size 43 z0 ∧ Blk w (W.heap.size + 1) 43 (intsC out) ∧ Below W.heap.size W w) (fun _ (w : World) => lenAt w gl)
      case atStart => exact ⟨ps9, T, gs, cap, List.replicate 257 0, hp9, hfo9, hhp9, fun R h => SizesR.perm HLP.out.symm h, hbd9, hB09, hB19, hbe9⟩
      case round =>
        clear hp9 hfo9 hB09 hB19 hbe9 hhp9 hbd9
        obtain ⟨ps, T, gs, cap, out, hp, hfo, hhp, hR, hbd, hB0, hB1, hbe⟩ := hrel
        have hlenW := hp.lenAt
        have hbox := hp.box.cell 0
        simp only [List.getElem?_toArray, List.getElem?_cons_zero] at hbox
        have hgsb : W.heap.size ≤ gs := own_ge hp.own gs rfl
        have hpl : (lfs ps T).length = ps.length := by simp [lfs]
        have hbn := hbd.n
        rw [hpl] at hbn
        have HR := Lib.hid hR
        clear hR hpl
        by_cases hlt : 1 < ps.length
        · obtain ⟨q1, q2, q3⟩ := heap_pop hhp (by omega)
          have KP1 : ∀ w, Hp w W.heap.size gl gs cap ps (keyOf T) → _ := fun w h => hpop_any W.heap.size gl gs cap ps (keyOf T) w h (by omega) (by omega)
          have hl1 : ((popS (keyOf T) ps).take (ps.length - 1)).length = ps.length - 1 := by rw [List.length_take, popS_length]; omega
          obtain ⟨a, ha⟩ : ∃ a, a = ps.getD 0 0 := ⟨_, rfl⟩
          obtain ⟨ps1, hps1⟩ : ∃ ps1, ps1 = (popS (keyOf T) ps).take (ps.length - 1) := ⟨_, rfl⟩
          rw [q1, ← ha, ← hps1] at KP1
          rw [← ha, ← hps1] at q3
          rw [← hps1] at q2 hl1
          have hmin1 : ∀ x ∈ ps, lessK (keyOf T x) (keyOf T a) = false := fun x hx => by
            obtain ⟨j, hj, rfl⟩ := List.mem_iff_getElem.1 hx
            have := heap_least hhp j j (Nat.le_refl _) hj
            rw [← ha] at this
            rwa [List.getD_eq_getElem?_getD, List.getElem?_eq_getElem hj] at this
          obtain ⟨r1, r2, r3⟩ := heap_pop q2 (by omega)
          have hl2 : ((popS (keyOf T) ps1).take (ps1.length - 1)).length = ps1.length - 1 := by rw [List.length_take, popS_length]; omega
          have KP2 : ∀ w, Hp w W.heap.size gl gs cap ps1 (keyOf T) → _ := fun w h => hpop_any W.heap.size gl gs cap ps1 (keyOf T) w h (by omega) (by omega)
          obtain ⟨b, hb⟩ : ∃ b, b = ps1.getD 0 0 := ⟨_, rfl⟩
          obtain ⟨ps2, hps2⟩ : ∃ ps2, ps2 = (popS (keyOf T) ps1).take (ps1.length - 1) := ⟨_, rfl⟩
          rw [r1, ← hb, ← hps2] at KP2
          rw [← hb, ← hps2] at r3
          rw [← hps2] at r2 hl2
          have hmin2 : ∀ x ∈ ps1, lessK (keyOf T x) (keyOf T b) = false := fun x hx => by
            obtain ⟨j, hj, rfl⟩ := List.mem_iff_getElem.1 hx
            have := heap_least q2 j j (Nat.le_refl _) hj
            rw [← hb] at this
            rwa [List.getD_eq_getElem?_getD, List.getElem?_eq_getElem hj] at this
          have hpm : ps.Perm (a :: b :: ps2) := by
            refine q3.symm.trans ((List.perm_append_comm).trans ?_)
            exact List.Perm.cons a (r3.symm.trans List.perm_append_comm)
          have hfoA := hfo.perm hpm.symm
          have HK1 := Lib.hid KP1
          have HK2 := Lib.hid KP2
          have HPM := Lib.hid hpm
          have HM1 := Lib.hid hmin1
          have HM2 := Lib.hid hmin2
          have HR3 := Lib.hid r3
          have HH2 := Lib.hid r2
          have HQ2 := Lib.hid q2
          have hnn : (1 : Int) < (ps.length : Int) := by omega
          have hl2' : ps2.length + 2 = ps.length := by omega
          clear KP1 KP2 q1 q2 q3 r1 r2 r3 hmin1 hmin2 hpm ha hb hps1 hps2 hhp hl1 hl2
          go_wp2_with fail
          refine (len_any (some ⟨gs, 0, none⟩) ps.length cap wr (by omega)).mono ?_
          rintro e w10 ⟨rfl, rfl⟩
          go_wp2_with fail
          rename_i K hK
          refine wp_region_noPanic ?_
          refine wp_region_held (S := fun _ => True) (by kernel_rfl) ?_
          have hpd := hp.below ((Below.refl wr.heap.size wr).drew)
          show wpAnyH _ _ _ _ _ _ _ _ wr.drew
          refine wpAnyH_take (i := 0) (oi := ⟨some 38, _, _, _, _, _⟩) (v := hpI gl) rfl (by kernel_rfl) (by kernel_rfl) (by kernel_rfl) (fun c a w h => h) (Or.inl ⟨by rfl, fun w _ => by kernel_rfl⟩) True.intro ?_
          try simp only [Act.put, List.setIfInBounds_toArray, List.set_cons_zero, List.set_cons_succ]
          refine wpAnyH_take (i := 3) (oi := ⟨some 41, _, _, _, _, _⟩) (v := hpI gl) rfl (by kernel_rfl) (by kernel_rfl) (by kernel_rfl) (fun c a w h => h) (Or.inl ⟨by rfl, fun w _ => by kernel_rfl⟩) True.intro ?_
          try simp only [Act.put, List.setIfInBounds_toArray, List.set_cons_zero, List.set_cons_succ]
          refine wpAnyH_ready (rs := [1]) (by kernel_rfl) (by simp) ?_
          refine AllReadyH.cons rfl (fun K' hK' => ?_) AllReadyH.nil
          go_simp
          refine (HK1.out _ hpd).mono ?_
          rintro e w11 ⟨rfl, hp11, ht11⟩
          refine hK'.out _ _ True.intro (fun hS5 => ?_)
          clear hK' K' hS5
          try simp only [Act.put, List.setIfInBounds_toArray, List.set_cons_zero, List.set_cons_succ]
          refine wpAnyH_take (i := 2) (oi := ⟨some 40, _, _, _, _, _⟩) (v := .pointer (some ⟨a, 0, none⟩)) rfl (by kernel_rfl) (by kernel_rfl) (by kernel_rfl) (fun c a w h => h) (Or.inl ⟨by rfl, fun w _ => by kernel_rfl⟩) True.intro ?_
          try simp only [Act.put, List.setIfInBounds_toArray, List.set_cons_zero, List.set_cons_succ]
          refine wpAnyH_ready (rs := [4]) (by kernel_rfl) (by simp) ?_
          refine AllReadyH.cons rfl (fun K' hK' => ?_) AllReadyH.nil
          go_simp
          refine (HK2.out _ hp11).mono ?_
          rintro e w12 ⟨rfl, hp12, ht12⟩
          refine hK'.out _ _ True.intro (fun hS5 => ?_)
          clear hK' K' hS5
          try simp only [Act.put, List.setIfInBounds_toArray, List.set_cons_zero, List.set_cons_succ]
          refine wpAnyH_take (i := 5) (oi := ⟨some 43, _, _, _, _, _⟩) (v := .pointer (some ⟨b, 0, none⟩)) rfl (by kernel_rfl) (by kernel_rfl) (by kernel_rfl) (fun c a w h => h) (Or.inl ⟨by rfl, fun w _ => by kernel_rfl⟩) True.intro ?_
          try simp only [Act.put, List.setIfInBounds_toArray, List.set_cons_zero, List.set_cons_succ]
          refine wpAnyH_take (i := 6) (oi := ⟨some 7, _, _, _, _, _⟩) (v := .pointer (some ⟨a, 0, none⟩)) rfl (by kernel_rfl) (by kernel_rfl) (by kernel_rfl) (fun c a w h => h) (Or.inl ⟨by rfl, fun w _ => by kernel_rfl⟩) True.intro ?_
          try simp only [Act.put, List.setIfInBounds_toArray, List.set_cons_zero, List.set_cons_succ]
          refine wpAnyH_take (i := 7) (oi := ⟨some 8, _, _, _, _, _⟩) (v := .pointer (some ⟨b, 0, none⟩)) rfl (by kernel_rfl) (by kernel_rfl) (by kernel_rfl) (fun c a w h => h) (Or.inl ⟨by rfl, fun w _ => by kernel_rfl⟩) True.intro ?_
          try simp only [Act.put, List.setIfInBounds_toArray, List.set_cons_zero, List.set_cons_succ]
          refine wpAnyH_done (by kernel_rfl) ?_ _
          refine hK _ _ ?_
          clear hK K
          try simp only [Act.put, List.setIfInBounds_toArray, List.set_cons_zero, List.set_cons_succ]
          have h2 := ht11.drew.trans ht12
          have hfo12 := hfoA.two hp h2
          have hB012 := hB0.two hp h2 (by decide) (by decide)
          have hB112 := hB1.two hp h2 (by decide) (by decide)
          have hbe12 := h2.belowB hbe (by omega) hgsb hbe.size
          clear hp11 ht11 ht12 h2 hfoA hfo hB0 hB1 hbe hp hpd HK1 HK2 hbox
          go_wp2_with fail
          have hab : a ≠ b ∧ a ∉ ps2 ∧ b ∉ ps2 := by
            have := hfo12.nd
            simp only [List.nodup_cons, List.mem_cons, not_or] at this
            exact ⟨this.1.1, this.1.2, this.2.1⟩
          have hbd2 : Bd (((T a).key, (T a).vals) :: ((T b).key, (T b).vals) :: lfs ps2 T) out := hbd.perm (HPM.out.map (fun g => ((T g).key, (T g).vals))).symm
          have hTa := hfo12.tr a (by simp)
          have hTb := hfo12.tr b (by simp)
          have hwab : (T a).key.2 + (T b).key.2 ≤ 268435457 ∧ 0 ≤ (T a).key.2 ∧ 0 ≤ (T b).key.2 := by
            have h1 := hbd2.w
            have h2 := hTa.w0
            have h3 := hTb.w0
            have h4 := wSum_nonneg (lfs ps2 T) (fun x hx => hbd2.w0 x (by simp [hx]))
            simp only [wSum] at h1
            omega
          obtain ⟨wa, hwa⟩ : ∃ wa, wa = (T a).key.2 := ⟨_, rfl⟩
          obtain ⟨wb, hwb⟩ : ∃ wb, wb = (T b).key.2 := ⟨_, rfl⟩
          have hca : w12.drew.cell? ⟨a, 1, none⟩ = some (.int .i64 wa) := by rw [hwa]; exact hTa.keyAt.wt
          have hS : w12.drew.cell? ⟨b, 1, none⟩ = some (.int .i64 wb) := by rw [hwb]; exact hTb.keyAt.wt
          rw [← hwa, ← hwb] at hwab
          obtain ⟨hab1, hab2, hab3⟩ := hab
          obtain ⟨hw1, hw2, hw3⟩ := hwab
          have hfa : w12.drew.frozen? ⟨a, 1, none⟩ = false := hTa.blk.frozen 1
          have hwrap : IntKind.i64.wrap (wa + wb) = wa + wb := by rw [IntKind.wrap_i64]; omega
          have hdr := (Below.refl w12.heap.size w12).drew
          have hfo12d := hfo12.below hdr
          have hp12d := hp12.below hdr
          have hB012d := hB012.drew
          have hB112d := hB112.drew
          have hbe12d := hbe12.drew
          rename_i K hK
          refine wp_region_noPanic ?_
          refine wp_region_held (S := fun w => w.cell? ⟨b, 1, none⟩ = some (.int .i64 wb)) (by kernel_rfl) ?_
          show wpAnyH _ _ _ _ _ _ _ _ w12.drew
          clear hfo12 hp12 hB012 hB112 hbe12 hdr hTa hTb
          generalize w12.drew = w13 at *
          refine wpAnyH_take (i := 0) (oi := ⟨some 44, _, _, _, _, _⟩) (v := .pointer (some ⟨a, 0, none⟩)) rfl (by kernel_rfl) (by kernel_rfl) (by kernel_rfl) (fun c a w h => h) (Or.inl ⟨by rfl, fun w _ => by kernel_rfl⟩) hS ?_
          try simp only [Act.put, List.setIfInBounds_toArray, List.set_cons_zero, List.set_cons_succ]
          refine wpAnyH_take (i := 1) (oi := ⟨some 45, _, _, _, _, _⟩) (v := .pointer (some ⟨a, 0, none⟩)) rfl (by kernel_rfl) (by kernel_rfl) (by kernel_rfl) (fun c a w h => h) (Or.inl ⟨by rfl, fun w _ => by kernel_rfl⟩) hS ?_
          try simp only [Act.put, List.setIfInBounds_toArray, List.set_cons_zero, List.set_cons_succ]
          refine wpAnyH_take (i := 2) (oi := ⟨some 46, _, _, _, _, _⟩) (v := .pointer (some ⟨a, 1, none⟩)) rfl (by kernel_rfl) (by kernel_rfl) (by kernel_rfl) (fun c a w h => h) (Or.inl ⟨by rfl, fun w _ => by kernel_rfl⟩) hS ?_
          try simp only [Act.put, List.setIfInBounds_toArray, List.set_cons_zero, List.set_cons_succ]
          refine wpAnyH_take (i := 4) (oi := ⟨some 48, _, _, _, _, _⟩) (v := .pointer (some ⟨b, 0, none⟩)) rfl (by kernel_rfl) (by kernel_rfl) (by kernel_rfl) (fun c a w h => h) (Or.inl ⟨by rfl, fun w _ => by kernel_rfl⟩) hS ?_
          try simp only [Act.put, List.setIfInBounds_toArray, List.set_cons_zero, List.set_cons_succ]
          refine wpAnyH_take (i := 5) (oi := ⟨some 49, _, _, _, _, _⟩) (v := .pointer (some ⟨b, 0, none⟩)) rfl (by kernel_rfl) (by kernel_rfl) (by kernel_rfl) (fun c a w h => h) (Or.inl ⟨by rfl, fun w _ => by kernel_rfl⟩) hS ?_
          try simp only [Act.put, List.setIfInBounds_toArray, List.set_cons_zero, List.set_cons_succ]
          refine wpAnyH_take (i := 6) (oi := ⟨some 50, _, _, _, _, _⟩) (v := .pointer (some ⟨b, 1, none⟩)) rfl (by kernel_rfl) (by kernel_rfl) (by kernel_rfl) (fun c a w h => h) (Or.inl ⟨by rfl, fun w _ => by kernel_rfl⟩) hS ?_
          try simp only [Act.put, List.setIfInBounds_toArray, List.set_cons_zero, List.set_cons_succ]
          refine wpAnyH_take (i := 7) (oi := ⟨some 51, _, _, _, _, _⟩) (v := .int .i64 wb) rfl (by kernel_rfl) (by kernel_rfl) (by kernel_rfl) (fun c a w h => h) (yieldsIf_load_cell (by rfl) 3 (.tmp 50) rfl ⟨b, 1, none⟩ rfl _ _ (fun w h => h) Try.underlying3 rfl) hS ?_
          try simp only [Act.put, List.setIfInBounds_toArray, List.set_cons_zero, List.set_cons_succ]
          refine wpAnyH_ready (rs := [3]) (by kernel_rfl) (by simp) ?_
          refine AllReadyH.cons rfl (fun K' hK' => ?_) AllReadyH.nil
          rw [if_pos (by rfl)]
          refine wp_ran (o := ⟨some 47, _, _, _, _, _⟩) (v := .int .i64 wa) (run_load_cell 3 (.tmp 46) rfl ⟨a, 1, none⟩ rfl (.int .i64 wa) _ hca Try.underlying3 rfl) ?_
          refine hK'.out _ _ hS (fun hS5 => ?_)
          clear hK' K' hS5
          try simp only [Act.put, List.setIfInBounds_toArray, List.set_cons_zero, List.set_cons_succ]
          refine wpAnyH_take (i := 8) (oi := ⟨some 52, _, _, _, _, _⟩) (v := .int .i64 (IntKind.i64.wrap (wa + wb))) rfl (by kernel_rfl) (by kernel_rfl) (by kernel_rfl) (fun c a w h => h) (Or.inl ⟨by rfl, fun w _ => by kernel_rfl⟩) hS ?_
          try simp only [Act.put, List.setIfInBounds_toArray, List.set_cons_zero, List.set_cons_succ]
          rw [hwrap]
          refine wpAnyH_take (i := 9) (oi := ⟨some 53, _, _, _, _, _⟩) (v := .pointer (some ⟨a, 0, none⟩)) rfl (by kernel_rfl) (by kernel_rfl) (by kernel_rfl) (fun c a w h => h) (Or.inl ⟨by rfl, fun w _ => by kernel_rfl⟩) hS ?_
          try simp only [Act.put, List.setIfInBounds_toArray, List.set_cons_zero, List.set_cons_succ]
          refine wpAnyH_take (i := 10) (oi := ⟨some 54, _, _, _, _, _⟩) (v := .pointer (some ⟨a, 1, none⟩)) rfl (by kernel_rfl) (by kernel_rfl) (by kernel_rfl) (fun c a w h => h) (Or.inl ⟨by rfl, fun w _ => by kernel_rfl⟩) hS ?_
          try simp only [Act.put, List.setIfInBounds_toArray, List.set_cons_zero, List.set_cons_succ]
          refine wpAnyH_ready (rs := [11]) (by kernel_rfl) (by simp) ?_
          refine AllReadyH.cons rfl (fun K' hK' => ?_) AllReadyH.nil
          rw [if_pos (by rfl)]
          refine wp_store_cell (op := ⟨none, _, _, _, _, _⟩) 3 (.tmp 54) (.tmp 52) rfl a 1 (.int .i64 (wa + wb)) rfl rfl (by rw [hca]; rfl) hfa (by kernel_rfl) rfl ?_
          have hBa := (hfo12d.tr a (by simp)).blk
          have hg14 := grown_setCell w13 ⟨a, 1, none⟩ (.int .i64 (wa + wb))
          have hfo14 := hfo12d.weigh (a := a) (x := wa + wb) (by simp) (by omega) (by omega)
          have hp14 := hp12d.off hBa (by decide) (by decide) hab2 hg14
          have hB014 := hB012d.grown hg14 (fun e => by injection e with e; subst e; exact absurd (Blk.ne_ hB012d hBa (by decide)) (by simp))
          have hB114 := hB112d.grown hg14 (fun e => by injection e with e; rw [e] at hB112d; exact absurd (Blk.ne_ hB112d hBa (by decide)) (by simp))
          have hab0 : W.heap.size ≤ a := (hfo12d.tr a (by simp)).ge
          have hbe14 := hbe12d.grown hg14 hbe12d.size (fun k e => by cases e; exact hab0)
          refine hK'.out _ _ ((World.cell?_setCell_other _ _ _ _ (fun h => by injection h with h; exact hab1 h)).trans hS) (fun hS5 => ?_)
          clear hK' K' hS5
          refine wpAnyH_done (by kernel_rfl) ?_ _
          refine hK _ _ ?_
          clear hK K
          try simp only [Act.put]
          clear hca hS hfa hfo12d hp12d hB012d hB112d hbe12d hg14 hBa
          generalize w13.setCell ⟨a, 1, none⟩ (.int .i64 (wa + wb)) = w14 at *
          go_wp2_with fail
          obtain ⟨T1, hT1⟩ : ∃ T1, T1 = upd T a ⟨((T a).key.1, wa + wb), (T a).vals, (T a).sl⟩ := ⟨_, rfl⟩
          rw [← hT1] at hfo14
          have hT1a : T1 a = ⟨((T a).key.1, wa + wb), (T a).vals, (T a).sl⟩ := by rw [hT1, upd_same]
          have hT1o : ∀ g, g ≠ a → T1 g = T g := fun g hg => by rw [hT1, upd_other _ _ _ _ hg]
          have hTa := hfo14.tr a (by simp)
          have hTb := hfo14.tr b (by simp)
          obtain ⟨Aa, ca, hsa, hra⟩ := own_form hTa.own
          obtain ⟨Ab, cb, hsb, hrb⟩ := own_form hTb.own
          obtain ⟨sa, hsae⟩ : ∃ sa, sa = (T1 a).sl := ⟨_, rfl⟩
          obtain ⟨sb, hsbe⟩ : ∃ sb, sb = (T1 b).sl := ⟨_, rfl⟩
          have hca : w14.drew.cell? ⟨a, 2, none⟩ = some sa := by rw [hsae]; exact (hTa.blk.cell 2)
          have hS : w14.drew.cell? ⟨b, 2, none⟩ = some sb := by rw [hsbe]; exact (hTb.blk.cell 2)
          have hfa : w14.drew.frozen? ⟨a, 2, none⟩ = false := hTa.blk.frozen 2
          have hvl : (T1 a).vals.length + (T1 b).vals.length ≤ 257 := by
            have h1 := hbd2.v
            simp only [vSum] at h1
            rw [hT1a, hT1o b (fun e => hab1 e.symm)]
            simp only; omega
          have hdr := (Below.refl w14.heap.size w14).drew
          have hfo14d := hfo14.below hdr
          have hp14d := hp14.below hdr
          have hB014d := hB014.drew
          have hB114d := hB114.drew
          have hbe14d := hbe14.drew
          have hrb' := hrb.drew
          have hTaown := own_below hTa.own hdr (Nat.le_refl _)
          rename_i K hK
          refine wp_region_noPanic ?_
          refine wp_region_held (S := fun w => w.cell? ⟨b, 2, none⟩ = some sb) (by kernel_rfl) ?_
          show wpAnyH _ _ _ _ _ _ _ _ w14.drew
          clear hfo14 hp14 hB014 hB114 hbe14 hdr hTa hTb hrb
          have hszd : w14.drew.heap.size = w14.heap.size := rfl
          generalize w14.drew = w15 at *
          refine wpAnyH_take (i := 0) (oi := ⟨some 55, _, _, _, _, _⟩) (v := .pointer (some ⟨a, 0, none⟩)) rfl (by kernel_rfl) (by kernel_rfl) (by kernel_rfl) (fun c a w h => h) (Or.inl ⟨by rfl, fun w _ => by kernel_rfl⟩) hS ?_
          try simp only [Act.put, List.setIfInBounds_toArray, List.set_cons_zero, List.set_cons_succ]
          refine wpAnyH_take (i := 1) (oi := ⟨some 56, _, _, _, _, _⟩) (v := .pointer (some ⟨a, 0, none⟩)) rfl (by kernel_rfl) (by kernel_rfl) (by kernel_rfl) (fun c a w h => h) (Or.inl ⟨by rfl, fun w _ => by kernel_rfl⟩) hS ?_
          try simp only [Act.put, List.setIfInBounds_toArray, List.set_cons_zero, List.set_cons_succ]
          refine wpAnyH_take (i := 2) (oi := ⟨some 57, _, _, _, _, _⟩) (v := .pointer (some ⟨a, 0, none⟩)) rfl (by kernel_rfl) (by kernel_rfl) (by kernel_rfl) (fun c a w h => h) (Or.inl ⟨by rfl, fun w _ => by kernel_rfl⟩) hS ?_
          try simp only [Act.put, List.setIfInBounds_toArray, List.set_cons_zero, List.set_cons_succ]
          refine wpAnyH_take (i := 3) (oi := ⟨some 58, _, _, _, _, _⟩) (v := .pointer (some ⟨a, 2, none⟩)) rfl (by kernel_rfl) (by kernel_rfl) (by kernel_rfl) (fun c a w h => h) (Or.inl ⟨by rfl, fun w _ => by kernel_rfl⟩) hS ?_
          try simp only [Act.put, List.setIfInBounds_toArray, List.set_cons_zero, List.set_cons_succ]
          refine wpAnyH_take (i := 5) (oi := ⟨some 60, _, _, _, _, _⟩) (v := .pointer (some ⟨b, 0, none⟩)) rfl (by kernel_rfl) (by kernel_rfl) (by kernel_rfl) (fun c a w h => h) (Or.inl ⟨by rfl, fun w _ => by kernel_rfl⟩) hS ?_
          try simp only [Act.put, List.setIfInBounds_toArray, List.set_cons_zero, List.set_cons_succ]
          refine wpAnyH_take (i := 6) (oi := ⟨some 61, _, _, _, _, _⟩) (v := .pointer (some ⟨b, 0, none⟩)) rfl (by kernel_rfl) (by kernel_rfl) (by kernel_rfl) (fun c a w h => h) (Or.inl ⟨by rfl, fun w _ => by kernel_rfl⟩) hS ?_
          try simp only [Act.put, List.setIfInBounds_toArray, List.set_cons_zero, List.set_cons_succ]
          refine wpAnyH_take (i := 7) (oi := ⟨some 62, _, _, _, _, _⟩) (v := .pointer (some ⟨b, 2, none⟩)) rfl (by kernel_rfl) (by kernel_rfl) (by kernel_rfl) (fun c a w h => h) (Or.inl ⟨by rfl, fun w _ => by kernel_rfl⟩) hS ?_
          try simp only [Act.put, List.setIfInBounds_toArray, List.set_cons_zero, List.set_cons_succ]
          refine wpAnyH_take (i := 8) (oi := ⟨some 63, _, _, _, _, _⟩) (v := sb) rfl (by kernel_rfl) (by kernel_rfl) (by kernel_rfl) (fun c a w h => h) (yieldsIf_load_cell (by rfl) 23 (.tmp 62) rfl ⟨b, 2, none⟩ rfl _ _ (fun w h => h) Try.underlying23 rfl) hS ?_
          try simp only [Act.put, List.setIfInBounds_toArray, List.set_cons_zero, List.set_cons_succ]
          refine wpAnyH_ready (rs := [4]) (by kernel_rfl) (by simp) ?_
          refine AllReadyH.cons rfl (fun K' hK' => ?_) AllReadyH.nil
          rw [if_pos (by rfl)]
          refine wp_ran (o := ⟨some 59, _, _, _, _, _⟩) (v := sa) (run_load_cell 23 (.tmp 58) rfl ⟨a, 2, none⟩ rfl sa _ hca Try.underlying23 rfl) ?_
          refine hK'.out _ _ hS (fun hS5 => ?_)
          clear hK' K' hS5
          try simp only [Act.put, List.setIfInBounds_toArray, List.set_cons_zero, List.set_cons_succ]
          refine wpAnyH_ready (rs := [9]) (by kernel_rfl) (by simp) ?_
          refine AllReadyH.cons rfl (fun K' hK' => ?_) AllReadyH.nil
          rw [if_pos (by rfl)]
          obtain ⟨ii, hi, hi2⟩ := Option.map_eq_some_iff.1 info3
          simp only [Prod.mk.injEq] at hi2
          refine wp_append_any (o := ⟨some 64, _, _, _, _, _⟩) w15 (.tmp 59) (.tmp 63) 23 rfl W.heap.size 3 ii (.int .i64 0) 1 8 Try.underlying23 hi hi2.1 hi2.2.1 hi2.2.2 rfl (by decide) sa (T1 a).vals.length (intV (T1 a).vals) rfl (by rw [hsae]; exact hTaown) w14.heap.size Ab (T1 b).vals.length cb (intV (T1 b).vals) (hsbe.trans hsb) hrb' intV_one (by simp only [maxLen]; omega) (by omega) hbe14d.size ?_
          intro v' w16 hown16 hg16 hor16
          rw [hsae] at hg16 hor16
          have hB016 := hB014d.grown hg16 (fun e => own_blk_ne hTaown hB014d (by decide) e.symm)
          have hB116 := hB114d.grown hg16 (fun e => own_blk_ne hTaown hB114d (by decide) e.symm)
          have hp16 := hp14d.valsGrown hTaown hg16
          have hba : Blk w16 a 58 #[.int .i64 (T1 a).key.1, .int .i64 (T1 a).key.2, (T1 a).sl] := (hfo14d.tr a (by simp)).blk.grown hg16 (fun e => own_blk_ne hTaown (hfo14d.tr a (by simp)).blk (by decide) e.symm)
          have hbb : Blk w16 b 58 #[.int .i64 (T1 b).key.1, .int .i64 (T1 b).key.2, (T1 b).sl] := (hfo14d.tr b (by simp)).blk.grown hg16 (fun e => own_blk_ne hTaown (hfo14d.tr b (by simp)).blk (by decide) e.symm)
          have hS16 : w16.cell? ⟨b, 2, none⟩ = some sb := by rw [hsbe]; exact hbb.cell 2
          have hbe16 := hbe14d.grown hg16 hbe14d.size (fun k e => own_ge hTaown k e)
          have hj := hfo14d.join hg16 hor16 hown16
          have hv1 := own_one hown16
          refine hK'.out _ _ hS16 (fun hS5 => ?_)
          clear hK' K' hS5
          try simp only [Act.put, List.setIfInBounds_toArray, List.set_cons_zero, List.set_cons_succ]
          refine wpAnyH_take (i := 10) (oi := ⟨some 65, _, _, _, _, _⟩) (v := .pointer (some ⟨a, 0, none⟩)) rfl (by kernel_rfl) (by kernel_rfl) (by kernel_rfl) (fun c a w h => h) (Or.inl ⟨by rfl, fun w _ => by kernel_rfl⟩) hS16 ?_
          try simp only [Act.put, List.setIfInBounds_toArray, List.set_cons_zero, List.set_cons_succ]
          refine wpAnyH_take (i := 11) (oi := ⟨some 66, _, _, _, _, _⟩) (v := .pointer (some ⟨a, 2, none⟩)) rfl (by kernel_rfl) (by kernel_rfl) (by kernel_rfl) (fun c a w h => h) (Or.inl ⟨by rfl, fun w _ => by kernel_rfl⟩) hS16 ?_
          try simp only [Act.put, List.setIfInBounds_toArray, List.set_cons_zero, List.set_cons_succ]
          refine wpAnyH_ready (rs := [12]) (by kernel_rfl) (by simp) ?_
          refine AllReadyH.cons rfl (fun K' hK' => ?_) AllReadyH.nil
          rw [if_pos (by rfl)]
          refine wp_store_cell (op := ⟨none, _, _, _, _, _⟩) 23 (.tmp 66) (.tmp 64) rfl a 2 v' rfl rfl (by rw [hba.cell]; rfl) (hba.frozen 2) (by kernel_rfl) hv1 ?_
          have hg17 := grown_setCell w16 ⟨a, 2, none⟩ v'
          have hp17 := hp16.off hba (by decide) (by decide) hab2 hg17
          have hB017 := hB016.grown hg17 (fun e => by injection e with e; rw [e] at hB016; exact absurd (Blk.ne_ hB016 hba (by decide)) (by simp))
          have hB117 := hB116.grown hg17 (fun e => by injection e with e; rw [e] at hB116; exact absurd (Blk.ne_ hB116 hba (by decide)) (by simp))
          have hbe17 := hbe16.grown hg17 hbe16.size (fun k e => by cases e; exact (hfo14d.tr a (by simp)).ge)
          refine hK'.out _ _ ((World.cell?_setCell_other _ _ _ _ (fun h => by injection h with h; exact hab1 h)).trans hS16) (fun hS5 => ?_)
          clear hK' K' hS5
          refine wpAnyH_done (by kernel_rfl) ?_ _
          refine hK _ _ ?_
          clear hK K
          try simp only [Act.put]
          clear hca hS hfa hS16 hfo14d hp14d hB014d hB114d hbe14d hp16 hB016 hB116 hbe16 hbb hg16 hg17 hown16
          generalize w16.setCell ⟨a, 2, none⟩ v' = w17 at *
          clear hor16 hba hv1 hi hi2 hTaown hszd hrb' hra hsa hsb hsae hsbe
          obtain ⟨vs, hvs⟩ : ∃ vs, vs = (T1 a).vals ++ (T1 b).vals := ⟨_, rfl⟩
          rw [← hvs] at hj
          have hvsl : vs.length ≤ 257 := by rw [hvs, List.length_append]; exact hvl
          have hvs' : vs = (T a).vals ++ (T b).vals := by rw [hvs, hT1a, hT1o b (fun e => hab1 e.symm)]
          obtain ⟨T2, hT2⟩ : ∃ T2, T2 = upd T1 a { key := (T1 a).key, vals := vs, sl := v' } := ⟨_, rfl⟩
          rw [← hT2] at hj
          have hT2a : T2 a = ⟨((T a).key.1, (T a).key.2 + (T b).key.2), vs, v'⟩ := by rw [hT2, upd_same, hT1a, ← hwa, ← hwb]
          have hT2o : ∀ g ∈ ps2, T2 g = T g := fun g hg => by
            have hne : g ≠ a := fun e => hab2 (e ▸ hg)
            rw [hT2, upd_other _ _ _ _ hne, hT1o g hne]
          have hvb : ∀ u ∈ vs, 0 ≤ u ∧ u ≤ 256 := fun u hu => by
            rw [hvs'] at hu
            rcases List.mem_append.1 hu with h1 | h1
            · exact hbd2.vb _ (List.mem_cons_self) u h1
            · exact hbd2.vb _ (List.mem_cons_of_mem _ List.mem_cons_self) u h1
          have hown2 := (hj.tr a (by simp)).own
          have hblk2 := (hj.tr a (by simp)).blk
          rw [hT2a] at hown2 hblk2
          simp only at hown2 hblk2
          obtain ⟨A2, c2, rfl, hr2⟩ := own_form hown2
          have hca2 : w17.cell? ⟨a, 2, none⟩ = some (.slice A2 vs.length c2) := hblk2.cell 2
          have hp17b := hp17.keys_congr (key' := keyOf T2) (fun g hg => by unfold keyOf; rw [hT2o g hg])
          have HVB := Lib.hid hvb
          have HVS := Lib.hid hvs'
          have HT2A := Lib.hid hT2a
          have HT2O := Lib.hid hT2o
          have HBD2 := Lib.hid hbd2
          have hal : a ≠ gl := fun e => by subst e; exact absurd (Blk.ne_ hblk2 hp17.box (by decide)) (by simp)
          have hagg : a ≠ gs := fun e => by
            have := own_blk_ne hp17.own hblk2 (by decide)
            simp [Value.ownBlock] at this
            exact this e.symm
          clear hvb hvs hvs' hT2 hT2a hT2o hbd2 hblk2 hr2 hvl hT1 hT1a hT1o hp17
          go_wp2_with fail
          go_loopw [72] (fun v72 (w : World) => ∃ i : Nat, i ≤ vs.length ∧ v72 = .int .i64 i ∧ Blk w (W.heap.size + 1) 43 (intsC (bump out (vs.take i))) ∧ w17.grownBy w (some (W.heap.size + 1))) (fun v72 _ => vs.length - (intOf v72).toNat)
          case atStart => exact ⟨0, by omega, rfl, hB117, World.grownBy.refl _ _⟩
          case round =>
            obtain ⟨i, hi, rfl, hBo, hgo⟩ := hrel
            by_cases hlt4 : i < vs.length
            · have hownr := own_grown hown2 hgo (fun k hk e => by injection e with e; subst e; exact own_blk_ne hown2 hB117 (by decide) hk)
              obtain ⟨ad, u, rfl, _, hx, hc⟩ := (Reads.of_own hownr).at_ (k := i) hlt4
              obtain ⟨x, hx1, rfl⟩ := intV_at hx
              obtain ⟨x0, x1⟩ := HVB.out x (List.mem_of_getElem? hx1)
              obtain ⟨xn, rfl⟩ : ∃ xn : Nat, x = xn := ⟨x.toNat, by omega⟩
              have hbl : (bump out (vs.take i)).length = 257 := by rw [bump_len]; exact HBD2.out.ol
              have hcx : wr.cell? ⟨W.heap.size + 1, xn, none⟩ = some (.int .i64 ((bump out (vs.take i)).getD xn 0)) := by rw [hBo.cell]; exact intsC_at _ _ (by rw [hbl]; omega)
              obtain ⟨y0, y1⟩ := bump_nonneg_le HBD2.out (vs := vs.take i) (by rw [List.length_take]; omega) xn
              have hfx := hBo.frozen xn
              have hset := hBo.set_ xn (.int .i64 ((bump out (vs.take i)).getD xn 0 + 1))
              have hbs := bump_snoc out (vs.take i) (xn : Int)
              rw [← take_more hx1, Int.toNat_natCast] at hbs
              rw [intsC_set, ← hbs] at hset
              have hgo2 := hgo.trans (grown_setCell wr ⟨W.heap.size + 1, xn, none⟩ (.int .i64 ((bump out (vs.take i)).getD xn 0 + 1)))
              generalize (bump out (vs.take i)).getD xn 0 = y at *
              clear hBo hgo hx hx1 hbl hbs hownr
              go_wp2_with fail
              go_roundw
              case rel => exact ⟨i + 1, by omega, by go_num, hset, hgo2⟩
              case measure => simp [intOf]; omega
            · obtain rfl : i = vs.length := by omega
              rw [List.take_length] at hBo
              have hpA := hp17b.off hB117 (by decide) (by decide) (fun e => absurd (Blk.ne_ ((hj.tail).tr _ e).blk hB117 (by decide)) (by simp)) hgo
              have hfoA := hj.off hB117 (by decide) (by decide) hgo
              have hB0A := hB017.grown hgo (fun e => by injection e with e; omega)
              have hbeA := hbe17.grown hgo hbe17.size (fun k e => by injection e with e; omega)
              have KPU := Lib.hid (hpush_any W.heap.size gl gs cap ps2 a (keyOf T2) wr hpA (hfoA.tr a (by simp)).keyAt hagg hal hbeA.size (by omega))
              clear hj hB017 hB117 hbe17 hp17b hown2 hca2
              go_wp2_with fail
              go_at_call 25
              refine KPU.out.mono ?_
              rintro e w19 ⟨rfl, gs3, cap3, hp19, h219, _⟩
              obtain ⟨hh3, hpm3⟩ := heap_push a (HeapFrom.congr_keys (key' := keyOf T2) HH2.out (fun g hg => by unfold keyOf; rw [HT2O.out g hg]))
              have hfo19 := (hfoA.two hpA h219).perm (hpm3.trans List.perm_append_comm)
              have hB019 := hB0A.two hpA h219 (by decide) (by decide)
              have hB119 := hBo.two hpA h219 (by decide) (by decide)
              have hbe19 := h219.belowB hbeA (by omega) hgsb hbeA.size
              have hbd19 := round_bd HBD2.out (by rw [← HVS.out]; exact HT2A.out) HT2O.out hpm3
              rw [← HVS.out] at hbd19
              have HR19 : Hid (∀ R, SizesR (lfs (pushS (keyOf T2) ps2 a) T2) (bump out vs) R → SizesR (leavesT ws 256) (List.replicate 257 0) R) := Lib.hid (fun R h => HR.out R (round_sizes HPM.out HM1.out HM2.out HR3.out (by rw [← HVS.out]; exact HT2A.out) HT2O.out hpm3 (by rw [← HVS.out]; exact h)))
              have hpl3 : (pushS (keyOf T2) ps2 a).length = ps2.length + 1 := by rw [hpm3.length_eq]; simp
              obtain ⟨ps3, hps3⟩ : ∃ ps3, ps3 = pushS (keyOf T2) ps2 a := ⟨_, rfl⟩
              rw [← hps3] at hp19 hh3 hfo19 hbd19 HR19 hpl3
              clear hps3 hpm3 hfoA hpA hB0A hBo hbeA h219 hgo KPU
              go_wp2_with fail
              go_roundw
              case rel => exact ⟨ps3, T2, gs3, cap3, bump out vs, hp19, hfo19, hh3, HR19.out, hbd19, hB019, hB119, hbe19⟩
              case measure => rw [hp19.lenAt, hlenW, hpl3]; omega
        · have hnn : ¬ (1 : Int) < (ps.length : Int) := by omega
          have hdone := HR.out out (.done (by simp [lfs]; omega))
          have hs2 := size43 out hbd.ol
          have ho2 := intsC_one out
          have hos2 : z0.size = (intsC out).size := by rw [HZ0.out, intsC_size, intsC_size, hbd.ol]; simp
          have HDN := Lib.hid hdone
          have HOS2 := Lib.hid hos2
          have hol := hbd.ol
          clear hdone hos2
          go_wp2_with fail
          refine (len_any (some ⟨gs, 0, none⟩) ps.length cap wr (by omega)).mono ?_
          rintro e w10 ⟨rfl, rfl⟩
          go_wp2_with (first | (refine wpList_load_blk rfl 43 (.tmp 3) rfl (W.heap.size + 1) rfl 43 _ _ hB1 Try.underlying43 rfl hs2 ?_) | (refine wpList_store_blk rfl 43 (.tmp 2) (.tmp 86) rfl W.heap.size rfl 43 _ _ rfl hB0 hs2 HOS2.out ho2 ?_; intro w5 hR5 hg5 hs5; clear hs5))
          exact bodyPost_ret (results_cell_blk rfl _ _ W.heap.size 43 _ _ rfl hR5 Try.underlying43 rfl hs2) rfl ⟨out, rfl, HDN.out, hol, hbe.grown hg5 hbe.size (fun k e => by cases e; exact Nat.le_refl _)⟩
end Go.Proofs.Ytdkgficmodcolaa
