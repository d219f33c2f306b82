/- Push of the waiting trees. -/
import Derived.Test.YtdkgficmodcolaaPopPush
namespace Go.Proofs.Ytdkgficmodcolaa
open Go.RowKit

/-- only two of the blocks that lay are turned -/
structure Two (w w' : World) (a b : Nat) : Prop where
  os : w'.os = w.os
  tape : w'.tape = w.tape
  output : w'.output = w.output
  size : w.heap.size ≤ w'.heap.size
  block : ∀ k, k < w.heap.size → k ≠ a → k ≠ b → w'.heap[k]? = w.heap[k]?
theorem Two.trans {w w' w2 : World} {a b : Nat} (h : Two w w' a b) (h2 : Two w' w2 a b) : Two w w2 a b :=
  ⟨h2.os.trans h.os, h2.tape.trans h.tape, h2.output.trans h.output, Nat.le_trans h.size h2.size, fun k hk h1 h3 => (h2.block k (Nat.lt_of_lt_of_le hk h.size) h1 h3).trans (h.block k hk h1 h3)⟩
theorem Two.left {w w' : World} {a : Nat} (b : Nat) (h : w.grownBy w' (some a)) : Two w w' a b := ⟨h.os, h.tape, h.output, h.size, fun k hk h1 _ => h.block k hk (fun e => h1 (by injection e))⟩
theorem Two.right {w w' : World} {b : Nat} (a : Nat) (h : w.grownBy w' (some b)) : Two w w' a b := ⟨h.os, h.tape, h.output, h.size, fun k hk _ h1 => h.block k hk (fun e => h1 (by injection e))⟩
theorem Two.below {w w' : World} (a b : Nat) (h : Below w.heap.size w w') : Two w w' a b := ⟨h.os, h.tape, h.output, h.size, fun k hk _ _ => h.block k hk⟩
theorem info56 : (Try.prog.info? 56).map (fun i => (i.zero, i.size, i.bytes)) = some (some (.pointer none), 1, 8) := by kernel_rfl
theorem wp_append1 {o : Oper} {a : Act} {w : World} {K : Act → World → Prop} {Q : Exit → Act → World → Prop} {t e : TypeId} {z u : Value} {bytes : Nat} (hI : (Try.prog.info? e).map (fun i => (i.zero, i.size, i.bytes)) = some (some z, 1, bytes)) (hz1 : z.cells.size = 1)
    (ht : Try.prog.underlying t = some (.slice e)) (s x : Operand)
    (ho : o.op = .call { callee := .builtin .append, args := #[s, x], argTypes := #[t, t] }) (base : Nat) (v : Value) (n : Nat) (xs : List Value) (hs : a.eval s = v) (hown : w.ownsRow base e 1 v n xs)
    (g : Nat) (hx : a.eval x = .slice (some ⟨g, 0, none⟩) 1 1) (hB : Blk w g e #[u]) (hu : u.oneCell' = true) (hn : (n + 1) * bytes ≤ 140737488355328) (hn2 : n + 1 ≤ 140737488355328) (hbase : base ≤ w.heap.size)
    (h : ∀ v' w', w'.ownsRow base e 1 v' (n + 1) (xs ++ [u]) → w.grownBy w' v.ownBlock → (v'.ownBlock = v.ownBlock ∨ v'.ownBlock = some w.heap.size) → K (a.put o.dst v') w') : o.wp Try.prog a w K Q := by
  obtain ⟨i, hi, hi2⟩ := Option.map_eq_some_iff.1 hI
  simp only [Prod.mk.injEq] at hi2
  obtain ⟨hz, hsz, hby⟩ := hi2
  refine wp_append_any w s x t ho base e i z 1 bytes ht hi hz hsz hby hz1 (by decide) v n xs hs hown (g + 1) (some ⟨g, 0, none⟩) 1 1 [u] hx ⟨rfl, fun _ => ⟨_, rfl, by simp, fun j u' hu' => ?_⟩⟩ (by simpa using hu) (by simp only [maxLen]; omega) hn hbase h
  rw [Addr.add_mid, hB.cell, Nat.zero_add]
  simpa using hu'
theorem Hp.alloc {w : World} {base gl gs cap : Nat} {ps : List Nat} {key : Nat → Int × Int} (h : Hp w base gl gs cap ps key) (o : Obj) : Hp (w.drew.alloc o) base gl gs cap ps key :=
  h.below ((Below.refl _ _).drew.alloc (Nat.le_refl _) o)
theorem Hp.pushed {w w2 : World} {base gl gs cap gs' cap' g : Nat} {ps : List Nat} {key : Nat → Int × Int} (h : Hp w base gl gs cap ps key) (hg : w.grownBy w2 (some gs)) (hk : KeyAt w g (key g)) (hgs : g ≠ gs) (hgl : g ≠ gl)
    (hown : w2.ownsRow base 56 1 (.slice (some ⟨gs', 0, none⟩) (ps.length + 1) cap') (ps.length + 1) (ptrV ps ++ [.pointer (some ⟨g, 0, none⟩)])) (hf : ps.length + 1 ≤ 1000) :
    Hp (w2.setCell ⟨gl, 0, none⟩ (.slice (some ⟨gs', 0, none⟩) (ps.length + 1) cap')) base gl gs' cap' (ps ++ [g]) key := by
  have hlen : (ps ++ [g]).length = ps.length + 1 := by simp
  have hbox := h.box.grown hg (fun e => h.ne (by injection e))
  have hne : gl ≠ gs' := fun e => by
    have := own_blk_ne hown hbox (by decide)
    simp [Value.ownBlock] at this
    exact this e.symm
  have hg2 := grown_setCell w2 ⟨gl, 0, none⟩ (.slice (some ⟨gs', 0, none⟩) (ps.length + 1) cap')
  refine ⟨?_, ?_, fun k hk' => ?_, by omega⟩
  · rw [hlen]; exact hbox.set_ 0 _
  · rw [hlen]
    have e : ptrV (ps ++ [g]) = ptrV ps ++ [.pointer (some ⟨g, 0, none⟩)] := by simp [ptrV]
    rw [e]
    exact own_grown hown hg2 (fun k hk e => by simp [Value.ownBlock] at hk; injection e with e; exact hne (e.trans hk.symm))
  · have hkk : KeyAt w k (key k) ∧ k ≠ gs ∧ k ≠ gl := by
      rcases List.mem_append.1 hk' with h1 | h1
      · refine ⟨h.keys k h1, h.kne h1, fun e => ?_⟩
        obtain ⟨v, hv⟩ := (h.keys k h1).at_
        subst e
        exact absurd (Blk.ne_ hv h.box (by decide)) (by simp)
      · obtain rfl := List.mem_singleton.1 h1
        exact ⟨hk, hgs, hgl⟩
    obtain ⟨hka, n1, n2⟩ := hkk
    obtain ⟨v, hv⟩ := hka.at_
    exact ⟨⟨v, (hv.grown hg (fun e => n1 (by injection e))).grown hg2 (fun e => n2 (by injection e))⟩, hka.n0, hka.w0⟩

theorem own_slice' {w : World} {base e size n : Nat} {v : Value} {xs : List Value} (h : w.ownsRow base e size v n xs) (hn : 0 < n) : ∃ g c, v = .slice (some ⟨g, 0, none⟩) n c := by
  rcases h.2 with ⟨_, h0⟩ | ⟨g, cap, cur, rfl, _⟩
  · omega
  · exact ⟨g, cap, rfl⟩

set_option maxRecDepth 100000 in
set_option maxHeartbeats 2000000 in
theorem tpush_any (base gl gs cap : Nat) (ps : List Nat) (g : Nat) (key : Nat → Int × Int) (W : World) (h : Hp W base gl gs cap ps key) (hk : KeyAt W g (key g)) (hgs : g ≠ gs) (hgl : g ≠ gl) (hb : base ≤ W.heap.size) (hf : ps.length + 1 ≤ 1000) :
    Calls Try.prog 55 #[.pointer (some ⟨gl, 0, none⟩), .iface 56 (.pointer (some ⟨g, 0, none⟩))] W fun e w' => e = .returned (.tuple #[]) ∧ ∃ gs' cap', Hp w' base gl gs' cap' (ps ++ [g]) key ∧ Two W w' gl gs ∧ (gs' = gs ∨ W.heap.size ≤ gs') := by
  have hbox := h.box.cell 0
  simp only [List.getElem?_toArray, List.getElem?_cons_zero] at hbox
  have hfr := h.box.frozen 0
  go_enter Try.func55, Try.ntmps55
  go_wp2_with fail
  refine wp_region_noPanic ?_
  refine wp_region_held (S := fun _ => True) (by kernel_rfl) ?_
  show wpAnyH _ _ _ _ _ _ _ _ W.drew
  refine wpAnyH_take (i := 0) (oi := ⟨some 4, _, _, _, _, _⟩) (v := .pointer (some ⟨gl, 0, none⟩)) rfl (by kernel_rfl) (by kernel_rfl) (by kernel_rfl) (fun c a w h => h) (Or.inl ⟨by rfl, fun w _ => by kernel_rfl⟩) True.intro ?_
  try simp only [Act.put, List.setIfInBounds_toArray, List.set_cons_zero, List.set_cons_succ]
  refine wpAnyH_take (i := 1) (oi := ⟨some 5, _, _, _, _, _⟩) (v := .pointer (some ⟨gl, 0, none⟩)) rfl (by kernel_rfl) (by kernel_rfl) (by kernel_rfl) (fun c a w h => h) (Or.inl ⟨by rfl, fun w _ => by kernel_rfl⟩) True.intro ?_
  try simp only [Act.put, List.setIfInBounds_toArray, List.set_cons_zero, List.set_cons_succ]
  refine wpAnyH_take (i := 2) (oi := ⟨some 6, _, _, _, _, _⟩) (v := .pointer (some ⟨gl, 0, none⟩)) rfl (by kernel_rfl) (by kernel_rfl) (by kernel_rfl) (fun c a w h => h) (Or.inl ⟨by rfl, fun w _ => by kernel_rfl⟩) True.intro ?_
  try simp only [Act.put, List.setIfInBounds_toArray, List.set_cons_zero, List.set_cons_succ]
  refine wpAnyH_take (i := 4) (oi := ⟨some 8, _, _, _, _, _⟩) (v := .iface 56 (.pointer (some ⟨g, 0, none⟩))) rfl (by kernel_rfl) (by kernel_rfl) (by kernel_rfl) (fun c a w h => h) (Or.inl ⟨by rfl, fun w _ => by kernel_rfl⟩) True.intro ?_
  try simp only [Act.put, List.setIfInBounds_toArray, List.set_cons_zero, List.set_cons_succ]
  refine wpAnyH_take (i := 5) (oi := ⟨some 9, _, _, _, _, _⟩) (v := .pointer (some ⟨g, 0, none⟩)) rfl (by kernel_rfl) (by kernel_rfl) (by kernel_rfl) (fun c a w h => h) (Or.inl ⟨by rfl, fun w _ => by kernel_rfl⟩) True.intro ?_
  try simp only [Act.put, List.setIfInBounds_toArray, List.set_cons_zero, List.set_cons_succ]
  have h3 := h.alloc (.cells #[.pointer (some ⟨g, 0, none⟩)] 56)
  have hn3 := Blk.new W.drew 56 #[.pointer (some ⟨g, 0, none⟩)]
  have hb3 : Below W.heap.size W (W.drew.alloc (.cells #[.pointer (some ⟨g, 0, none⟩)] 56)) := (Below.refl _ _).drew.alloc (Nat.le_refl _) _
  have hk3 := hk.below hb3
  have hbox3 := h3.box.cell 0
  simp only [List.getElem?_toArray, List.getElem?_cons_zero] at hbox3
  have hsz3 : base ≤ (W.drew.alloc (.cells #[.pointer (some ⟨g, 0, none⟩)] 56)).heap.size := Nat.le_trans hb hb3.size
  have hboxd : W.drew.cell? ⟨gl, 0, none⟩ = some (.slice (some ⟨gs, 0, none⟩) ps.length cap) := hbox
  obtain ⟨w3, hw3⟩ : ∃ w3, w3 = W.drew.alloc (.cells #[.pointer (some ⟨g, 0, none⟩)] 56) := ⟨_, rfl⟩
  rw [← hw3] at h3 hn3 hb3 hk3 hbox3 hsz3
  have hnl : W.drew.heap.size = W.heap.size := rfl
  refine wpAnyH_ready (rs := [3, 6]) (by kernel_rfl) (by simp) ?_
  refine AllReadyH.cons rfl (fun K' hK' => ?_) (AllReadyH.cons rfl (fun K' hK' => ?_) AllReadyH.nil)
  · rw [if_pos (by rfl)]
    refine wp_ran (run_load_cell (o := ⟨some 7, _, _, _, _, _⟩) 60 (.tmp 6) rfl ⟨gl, 0, none⟩ rfl (.slice (some ⟨gs, 0, none⟩) ps.length cap) _ hboxd Try.underlying60 rfl) ?_
    refine hK'.out _ _ True.intro (fun hS5 => ?_)
    clear hK' K' hS5
    try simp only [Act.put, List.setIfInBounds_toArray]
    refine wpAnyH_ready (rs := [6]) (by kernel_rfl) (by simp) ?_
    refine AllReadyH.cons rfl (fun K' hK' => ?_) AllReadyH.nil
    rw [if_pos (by rfl)]
    refine wp_bslice (o := ⟨some 10, _, _, _, _, _⟩) 60 56 1 _ rfl Try.underlying60 #[.pointer (some ⟨g, 0, none⟩)] (by kernel_rfl) ?_
    rw [← hw3]
    refine hK'.out _ _ True.intro (fun hS5 => ?_)
    clear hK' K' hS5
    try simp only [Act.put]
    refine wpAnyH_ready (rs := [7]) (by kernel_rfl) (by simp) ?_
    refine AllReadyH.cons rfl (fun K' hK' => ?_) AllReadyH.nil
    rw [if_pos (by rfl)]
    refine wp_append1 (o := ⟨some 11, _, _, _, _, _⟩) info56 rfl Try.underlying60 (.tmp 7) (.tmp 10) rfl base (.slice (some ⟨gs, 0, none⟩) ps.length cap) ps.length (ptrV ps) rfl h3.own W.drew.heap.size rfl hn3 rfl (by omega) (by omega) hsz3 ?_
    intro v8 w8 hown8 hg8 hor8
    obtain ⟨gs', cap', rfl⟩ := own_slice' hown8 (by omega)
    refine hK'.out _ _ True.intro (fun hS5 => ?_)
    clear hK' K' hS5
    try simp only [Act.put]
    refine wpAnyH_take (i := 8) (oi := ⟨some 12, _, _, _, _, _⟩) (v := .pointer (some ⟨gl, 0, none⟩)) rfl (by kernel_rfl) (by kernel_rfl) (by kernel_rfl) (fun c a w h => h) (Or.inl ⟨by rfl, fun w _ => by kernel_rfl⟩) True.intro ?_
    try simp only [Act.put]
    refine wpAnyH_ready (rs := [9]) (by kernel_rfl) (by simp) ?_
    refine AllReadyH.cons rfl (fun K' hK' => ?_) AllReadyH.nil
    rw [if_pos (by rfl)]
    have hbox8 := h3.box.grown hg8 (fun e => h3.ne (by injection e))
    refine wp_store_cell (op := ⟨none, _, _, _, _, _⟩) 60 (.tmp 12) (.tmp 11) rfl gl 0 (.slice (some ⟨gs', 0, none⟩) (ps.length + 1) cap') rfl rfl (by rw [hbox8.cell]; rfl) (hbox8.frozen 0) (by kernel_rfl) rfl ?_
    have h9 := h3.pushed hg8 hk3 hgs hgl hown8 hf
    have ht9 : Two W (w8.setCell ⟨gl, 0, none⟩ (.slice (some ⟨gs', 0, none⟩) (ps.length + 1) cap')) gl gs := ((Two.below gl gs hb3).trans (Two.right gl hg8)).trans (Two.left gs (grown_setCell w8 ⟨gl, 0, none⟩ _))
    have ho9 : gs' = gs ∨ W.heap.size ≤ gs' := by
      rcases hor8 with h1 | h1
      · simp [Value.ownBlock] at h1; exact .inl h1
      · simp [Value.ownBlock] at h1; exact .inr (by have := hb3.size; omega)
    refine hK'.out _ _ True.intro (fun hS5 => ?_)
    clear hK' K' hS5
    refine wpAnyH_done (by kernel_rfl) ?_ _
    refine NoPanic.normal ?_
    try simp only [Act.put]
    go_wp2_with fail
    exact bodyPost_end (results_none rfl _ _ _) rfl ⟨rfl, gs', ⟨cap', h9⟩, ht9, ho9⟩
  · rw [if_pos (by rfl)]
    refine wp_bslice (o := ⟨some 10, _, _, _, _, _⟩) 60 56 1 _ rfl Try.underlying60 #[.pointer (some ⟨g, 0, none⟩)] (by kernel_rfl) ?_
    rw [← hw3]
    refine hK'.out _ _ True.intro (fun hS5 => ?_)
    clear hK' K' hS5
    try simp only [Act.put, List.setIfInBounds_toArray, List.set_cons_zero, List.set_cons_succ]
    refine wpAnyH_ready (rs := [3]) (by kernel_rfl) (by simp) ?_
    refine AllReadyH.cons rfl (fun K' hK' => ?_) AllReadyH.nil
    rw [if_pos (by rfl)]
    refine wp_ran (run_load_cell (o := ⟨some 7, _, _, _, _, _⟩) 60 (.tmp 6) rfl ⟨gl, 0, none⟩ rfl (.slice (some ⟨gs, 0, none⟩) ps.length cap) _ hbox3 Try.underlying60 rfl) ?_
    refine hK'.out _ _ True.intro (fun hS5 => ?_)
    clear hK' K' hS5
    try simp only [Act.put, List.setIfInBounds_toArray]
    refine wpAnyH_ready (rs := [7]) (by kernel_rfl) (by simp) ?_
    refine AllReadyH.cons rfl (fun K' hK' => ?_) AllReadyH.nil
    rw [if_pos (by rfl)]
    refine wp_append1 (o := ⟨some 11, _, _, _, _, _⟩) info56 rfl Try.underlying60 (.tmp 7) (.tmp 10) rfl base (.slice (some ⟨gs, 0, none⟩) ps.length cap) ps.length (ptrV ps) rfl h3.own W.drew.heap.size rfl hn3 rfl (by omega) (by omega) hsz3 ?_
    intro v8 w8 hown8 hg8 hor8
    obtain ⟨gs', cap', rfl⟩ := own_slice' hown8 (by omega)
    refine hK'.out _ _ True.intro (fun hS5 => ?_)
    clear hK' K' hS5
    try simp only [Act.put]
    refine wpAnyH_take (i := 8) (oi := ⟨some 12, _, _, _, _, _⟩) (v := .pointer (some ⟨gl, 0, none⟩)) rfl (by kernel_rfl) (by kernel_rfl) (by kernel_rfl) (fun c a w h => h) (Or.inl ⟨by rfl, fun w _ => by kernel_rfl⟩) True.intro ?_
    try simp only [Act.put]
    refine wpAnyH_ready (rs := [9]) (by kernel_rfl) (by simp) ?_
    refine AllReadyH.cons rfl (fun K' hK' => ?_) AllReadyH.nil
    rw [if_pos (by rfl)]
    have hbox8 := h3.box.grown hg8 (fun e => h3.ne (by injection e))
    refine wp_store_cell (op := ⟨none, _, _, _, _, _⟩) 60 (.tmp 12) (.tmp 11) rfl gl 0 (.slice (some ⟨gs', 0, none⟩) (ps.length + 1) cap') rfl rfl (by rw [hbox8.cell]; rfl) (hbox8.frozen 0) (by kernel_rfl) rfl ?_
    have h9 := h3.pushed hg8 hk3 hgs hgl hown8 hf
    have ht9 : Two W (w8.setCell ⟨gl, 0, none⟩ (.slice (some ⟨gs', 0, none⟩) (ps.length + 1) cap')) gl gs := ((Two.below gl gs hb3).trans (Two.right gl hg8)).trans (Two.left gs (grown_setCell w8 ⟨gl, 0, none⟩ _))
    have ho9 : gs' = gs ∨ W.heap.size ≤ gs' := by
      rcases hor8 with h1 | h1
      · simp [Value.ownBlock] at h1; exact .inl h1
      · simp [Value.ownBlock] at h1; exact .inr (by have := hb3.size; omega)
    refine hK'.out _ _ True.intro (fun hS5 => ?_)
    clear hK' K' hS5
    refine wpAnyH_done (by kernel_rfl) ?_ _
    refine NoPanic.normal ?_
    try simp only [Act.put]
    go_wp2_with fail
    exact bodyPost_end (results_none rfl _ _ _) rfl ⟨rfl, gs', ⟨cap', h9⟩, ht9, ho9⟩
end Go.Proofs.Ytdkgficmodcolaa
