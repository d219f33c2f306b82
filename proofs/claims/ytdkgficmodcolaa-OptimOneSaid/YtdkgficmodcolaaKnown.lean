/- Best and Cost by what is known of the table; law11.known: the chapter's example holds. -/
import Derived.Test.YtdkgficmodcolaaOneM
namespace Go.Proofs.Ytdkgficmodcolaa
open Go.RowKit

theorem natsI_at (cn : List Nat) (k : Nat) : (natsI cn).getD k 0 = ((cn.getD k 0 : Nat) : Int) := by
  unfold natsI
  rw [List.getD_eq_getElem?_getD, List.getD_eq_getElem?_getD, List.getElem?_map]
  cases cn[k]? <;> simp
theorem natsI_len (cn : List Nat) : (natsI cn).length = cn.length := by simp [natsI]
theorem natsI_wf {cn : List Nat} (h : ∀ x ∈ cn, x ≤ 255) : ∀ x ∈ natsI cn, (Lit.int .i64 x).wf = true := fun x hx => by
  obtain ⟨y, hy, rfl⟩ := List.mem_map.1 hx
  have := h y hy
  simp [Lit.wf, IntKind.min, IntKind.max, IntKind.signed, IntKind.bits]
  omega
theorem valsI_bytes {ws R : List Int} {cn ys : List Nat} (h : TabOk ws R cn ys) : AreBytes (valsI ys) := fun x hx => by
  obtain ⟨y, hy, rfl⟩ := List.mem_map.1 hx
  have := ((h.vals y).1 hy).1
  omega
/-- a table in memory -/
structure TabAtW (w : World) (ws : List Int) (cn ys : List Nat) (A : Option Addr) : Prop where
  ex : ∃ R, TabOk ws R cn ys
  rd : Reads w w.heap.size 1 A ys.length (bytesV (valsI ys))
theorem TabAtW.below {w w' : World} {ws : List Int} {cn ys : List Nat} {A : Option Addr} (h : TabAtW w ws cn ys A) (hb : Below w.heap.size w w') : TabAtW w' ws cn ys A := ⟨h.ex, (h.rd.below hb).more hb.size⟩
/-- a list in memory -/
structure ListAt (w : World) (l : List Int) (A : Option Addr) (len : Nat) : Prop where
  hl : l.length = len
  wf : WfInts l
  rd : Reads w w.heap.size 1 A len (l.map (Value.int .i64))
  le : len ≤ 9223372036854775807
theorem ListAt.below {w w' : World} {l : List Int} {A : Option Addr} {len : Nat} (h : ListAt w l A len) (hb : Below w.heap.size w w') : ListAt w' l A len := ⟨h.hl, h.wf, (h.rd.below hb).more hb.size, h.le⟩
theorem best_walk (A : Option Addr) (c len : Nat) (l : List Int) (W : World) (h : ListAt W l A len) :
    Calls Try.prog 11 #[.slice A len c] W fun e w' => ∃ cn ys A' c', e = .returned (.agg (tabCells (natsI cn) (.slice A' ys.length c'))) ∧ TabAtW w' (weightsS l) cn ys A' ∧ Below W.heap.size W w' := by
  refine (best_any A c len l W h.hl h.wf h.rd h.le).mono ?_
  rintro e w ⟨v, rfl, ⟨⟨R, n, ys, A', c', rfl, h1, h2, h3, h4, h5⟩⟩, hb⟩
  obtain ⟨cn, e1, e2⟩ := tab_ok h1 h2 h3 h4
  unfold c16 at e1
  rw [e1]
  exact ⟨cn, ys, A', c', rfl, ⟨⟨R, e2⟩, reads_bytesN h5⟩, hb⟩
theorem cost_walk (ws : List Int) (cn ys : List Nat) (A : Option Addr) (c : Nat) (A2 : Option Addr) (len c2 : Nat) (l : List Int) (W : World) (ht : TabAtW W ws cn ys A) (h : ListAt W l A2 len) :
    Calls Try.prog 12 #[.agg (tabCells (natsI cn) (.slice A ys.length c)), .slice A2 len c2] W fun e w' => ∃ r, e = .returned (.int .i64 r) ∧ CostR (lenN cn ys) (weightsS l) r ∧ Below W.heap.size W w' := by
  obtain ⟨R, hok⟩ := ht.ex
  exact cost_any (natsI cn) (valsI ys) A ys.length c A2 len c2 l W (by rw [natsI_len]; exact hok.len) (natsI_wf hok.small) valsI_len (valsI_bytes hok) ht.rd (by have := hok.n256; omega) h.hl h.wf h.rd h.le
theorem wpList_load_want {P : Program} {ops : Array Oper} {rest : List Oper} {o : Oper} {a : Act} {w : World} {Q : Exit → Act → World → Prop} (hw : Region.wanted o (yielded ops a.tmps) = true) (ty : TypeId) (x : Operand) (ho : o.op = .load ty x)
    (g : Nat) (hx : a.eval x = .pointer (some ⟨g, 0, none⟩)) (t : TypeId) (cs : Array Value) (d : TypeDesc) (hB : Blk w g t cs)
    (hu : P.underlying ty = some d) (hd : d.isRow = true) (hi : (P.info? ty).map (·.size) = some cs.size)
    (h : wpList P ops Q rest (a.put o.dst (.agg cs)) w) : wpList P ops Q (o :: rest) a w :=
  BigFrame.wpList_want hw fun K hK => wp_load_row ty x ho g hx t cs (0, 0) d hB hu (by cases d <;> simp_all [TypeDesc.isRow]) hi (hK _ _ h)
theorem weights51 : (weightsS [5, 1]).getD 0 0 = 5 ∧ (weightsS [5, 1]).getD 1 0 = 1 ∧ ∀ i, i < 256 → 2 ≤ i → (weightsS [5, 1]).getD i 0 = 0 := by
  refine ⟨by decide +kernel, by decide +kernel, fun i hi h2 => ?_⟩
  rw [weightsS_at _ _ hi, List.getD_eq_getElem?_getD, List.getElem?_eq_none (by simpa using h2)]; rfl
theorem list51 {w : World} {g : Nat} (hB : Blk w g 3 #[.int .i64 5, .int .i64 1]) : ListAt w [5, 1] (some ⟨g, 0, none⟩) 2 :=
  ⟨rfl, by unfold WfInts; decide, ⟨rfl, fun _ => ⟨_, rfl, hB.lt, fun j u hu => by rw [Addr.add_mid, hB.cell, Nat.zero_add]; simpa using hu⟩⟩, by decide⟩
set_option maxRecDepth 100000 in
set_option maxHeartbeats 2000000 in
theorem known_any (W : World) : Calls Try.prog 9 #[] W fun e w' => e = .returned (.bool true) ∧ Below W.heap.size W w' := by
  have hb1 : Below W.heap.size W (W.alloc (.cells #[.int .i64 5, .int .i64 1] 3)) := (Below.refl _ _).alloc (Nat.le_refl _) _
  have KB := Lib.hid (best_walk (some ⟨W.heap.size, 0, none⟩) 2 2 [5, 1] _ (list51 (Blk.new W 3 #[.int .i64 5, .int .i64 1])))
  have hz30 := zero30
  have hsz30 : ∀ cn v, cn.length = 16 → (tabCells (List.replicate 16 0) (.slice none 0 0)).size = (tabCells (natsI cn) v).size := fun cn v h => by rw [tabCells_size _ _ (by simp), tabCells_size _ _ (by rw [natsI_len]; exact h)]
  obtain ⟨z30, hz30'⟩ : ∃ z, z = tabCells (List.replicate 16 0) (.slice none 0 0) := ⟨_, rfl⟩
  rw [← hz30'] at hz30 hsz30
  have HSZ := Lib.hid hsz30
  clear hz30' hsz30
  go_enter Try.func9, Try.ntmps9
  go_wp2_with fail
  go_at_call 11
  refine KB.out.mono ?_
  rintro e w2 ⟨cn, ys, A, c, rfl, ht, hb2⟩
  have hbe2 := hb1.trans (hb2.mono hb1.size)
  obtain ⟨R, hok⟩ := ht.ex
  obtain ⟨q1, q2, q3, q4⟩ := known_tab hok (fun i => (weightsS_bd [5, 1] i).1) weights51.1 weights51.2.1 weights51.2.2
  have hcl := hok.len
  subst q3
  have hyl : [0, 1].length = 2 := rfl
  obtain ⟨ad, u0, hA, _, hx0, hc0⟩ := ht.rd.at_ (k := 0) (by decide)
  subst hA
  have hu0 : u0 = .int .u8 0 := by simpa [bytesV, valsI] using hx0.symm
  subst hu0
  obtain ⟨cells, hcells⟩ : ∃ cells, cells = tabCells (natsI cn) (.slice (some ad) [0, 1].length c) := ⟨_, rfl⟩
  have hs30 : (Try.prog.info? 30).map (·.size) = some cells.size := by rw [hcells]; exact size30 _ _ (by rw [natsI_len]; exact hcl)
  have ho30 : cells.all (·.oneCell') = true := by rw [hcells]; exact tabCells_one _ _ rfl
  have hos : z30.size = cells.size := by rw [hcells]; exact HSZ.out cn _ hcl
  have k0 : cells[0]? = some (.int .i64 1) := by rw [hcells, tabCells_at _ _ 0 (by rw [natsI_len]; omega), natsI_at, q1]; rfl
  have k1 : cells[1]? = some (.int .i64 1) := by rw [hcells, tabCells_at _ _ 1 (by rw [natsI_len]; omega), natsI_at, q2]; rfl
  have k16 : cells[16]? = some (.slice (some ad) 2 c) := by rw [hcells, tabCells_last _ _ (by rw [natsI_len]; exact hcl)]; rfl
  have hB2 := Blk.new w2 30 z30
  have hb2' : Below w2.heap.size w2 (w2.alloc (.cells z30 30)) := (Below.refl _ _).alloc (Nat.le_refl _) _
  have HC := Lib.hid hcells
  have HOS := Lib.hid hos
  have HO30 := Lib.hid ho30
  have HT := Lib.hid ht
  have HQ4 := Lib.hid q4
  rw [← hcells]
  clear hcells hos ho30 ht q1 q2 q4 hok hx0 hb2 hb1 KB HSZ
  go_wp2_with (first
    | (refine wpList_store_blk rfl 30 (.tmp 1) (.tmp 3) rfl w2.heap.size rfl 30 _ _ rfl hB2 hs30 HOS.out HO30.out ?_
       intro w5 hR5 hg5 hs5
       have hb5 := hb2'.grown hg5 hb2'.size (fun k e => by injection e with e; omega)
       have hbe5 := hbe2.trans (hb5.mono hbe2.size)
       have ht5 := HT.out.below hb5
       have x0 : w5.cell? ⟨w2.heap.size, 0, none⟩ = some (.int .i64 1) := (hR5.cell 0).trans k0
       have x1 : w5.cell? ⟨w2.heap.size, 1, none⟩ = some (.int .i64 1) := (hR5.cell 1).trans k1
       have x16 : w5.cell? ⟨w2.heap.size, 16, none⟩ = some (.slice (some ad) 2 c) := (hR5.cell 16).trans k16
       have y0 : w5.cell? (ad.add 0) = some (.int .u8 0) := by
         obtain ⟨ad', u', hA', _, hx', hc'⟩ := ht5.rd.at_ (k := 0) (by decide)
         injection hA' with hA'
         subst hA'
         rw [hc', show u' = .int .u8 0 by simpa [bytesV, valsI] using hx'.symm]
       have y1 : w5.cell? ad = some (.int .u8 0) := y0
       clear hs5 hg5 hb5)
    | (refine wpList_load_want rfl 30 (.tmp 1) rfl w2.heap.size rfl 30 _ _ hR5 Try.underlying30 rfl hs30 ?_)
    | (go_at_call 12
       have hb6 : Below w5.heap.size w5 (w5.alloc (.cells #[.int .i64 5, .int .i64 1] 3)) := (Below.refl _ _).alloc (Nat.le_refl _) _
       have KC := cost_walk (weightsS [5, 1]) cn [0, 1] (some ad) c (some ⟨w5.heap.size, 0, none⟩) 2 2 [5, 1] _ (ht5.below hb6) (list51 (Blk.new w5 3 #[.int .i64 5, .int .i64 1]))
       rw [← HC.out] at KC
       have hbe6 := hbe5.trans (hb6.mono hbe5.size)
       refine KC.mono ?_
       rintro e w7 ⟨r, rfl, hr, hb7⟩
       obtain rfl := HQ4.out r hr
       have hbe7 := hbe6.trans (hb7.mono hbe6.size)
       clear KC hr hb7 hbe6 hb6))
  go_ret
  exact ⟨rfl, hbe7⟩
end Go.Proofs.Ytdkgficmodcolaa
