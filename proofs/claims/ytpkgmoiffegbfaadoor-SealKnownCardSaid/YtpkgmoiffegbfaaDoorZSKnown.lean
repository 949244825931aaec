/- SealKnown: the walk. Condition: what the two variables of sha hold. -/
import Derived.Test.YtpkgmoiffegbfaaDoorZSealWk
namespace Go.Proofs.YtpkgmoiffegbfaaDoor
open Go.RowKit Go.BigFrame
set_option maxRecDepth 100000
attribute [local go_sem ↓] exec_loadZ exec_eqlZ exec_neqZ exec_zeroZ
attribute [local go_sem] loadRow eqRow digEq_dg isDig_dg objAt_drew

def kE : Se := ⟨-1, -2, 18446744073709551615, 18446744073709551360⟩
def ktE : ByteArray := ⟨#[99, 111, 110, 115, 105, 103, 110, 255, 255, 255, 255, 255, 255, 255, 255, 255, 255, 255, 255, 255, 255, 255, 254, 255, 255, 255, 255, 255, 255, 255, 255, 255, 255, 255, 255, 255, 255, 255, 0]⟩
theorem kE_ok : kE.Ok := by unfold Se.Ok kE; simp
theorem kE_bytes : (⟨(seB kE).toArray⟩ : ByteArray) = ktE := by kernel_rfl
theorem ktE_list : ktE.toList = [99, 111, 110, 115, 105, 103, 110, 255, 255, 255, 255, 255, 255, 255, 255, 255, 255, 255, 255, 255, 255, 255, 254, 255, 255, 255, 255, 255, 255, 255, 255, 255, 255, 255, 255, 255, 255, 255, 0] := by kernel_rfl
theorem wpList_digs {o : Oper} {ops : Array Oper} {rest : List Oper} {a : Act} {w : World} {Q : Exit → Act → World → Prop} (hgd : o.guard = none) (parts : Array (Nat × Operand)) (Ds : List (List UInt8)) (ho : o.op = .buildSlice 52 Ds.length parts)
    (hl : 0 < Ds.length) (hl2 : Ds.length ≤ 100) (hf : ∀ D ∈ Ds, D.length = 32)
    (hp : (parts.map fun (i, x) => (i, a.eval x)).toList = (((Ds.map fun D => Value.agg (dg D)).zipIdx 0).map fun x => (x.2, x.1)))
    (h : ∀ u w', IsRow 28 Lib.byteCells Ds u w' → Below w.heap.size w w' → wpList Tryd.prog ops Q rest (a.put o.dst u) w') : wpList Tryd.prog ops Q (o :: rest) a w :=
  wpList_plain hgd fun _ hK => wp_digs parts Ds ho hl hl2 hf hp fun u w' h1 h2 => hK _ _ (h u w' h1 h2)
theorem wpList_seals {o : Oper} {ops : Array Oper} {rest : List Oper} {a : Act} {w : World} {Q : Exit → Act → World → Prop} (hgd : o.guard = none) (parts : Array (Nat × Operand)) (xs : List Se) (ho : o.op = .buildSlice 51 xs.length parts)
    (hl : 0 < xs.length) (hl2 : xs.length ≤ 100)
    (hp : (parts.map fun (i, x) => (i, a.eval x)).toList = (((xs.map fun x => Value.agg x.cells.toArray).zipIdx 0).map fun x => (x.2, x.1)))
    (h : ∀ u w', IsRow 41 Se.cells xs u w' → Below w.heap.size w w' → wpList Tryd.prog ops Q rest (a.put o.dst u) w') : wpList Tryd.prog ops Q (o :: rest) a w :=
  wpList_plain hgd fun _ hK => wp_seals parts xs ho hl hl2 hp fun u w' h1 h2 => hK _ _ (h u w' h1 h2)
theorem OwnI.at {w : World} {base : Nat} {v : Value} {l : List Int} (h : OwnI w base v l) (h0 : 0 < l.length) : ∃ g cap, v = .slice (some ⟨g, 0, none⟩) l.length cap ∧ g < w.heap.size ∧ ∀ (i : Nat) (n : Int), l[i]? = some n → w.cell? ⟨g, i, none⟩ = some (.int .i64 n) := by
  rcases h.2 with ⟨_, h2⟩ | ⟨g, cap, cur, h1, _, hg, _, _, _, ht⟩
  · omega
  · refine ⟨g, cap, h1, zlt hg, fun i n hi => ?_⟩
    have hlt := (List.getElem?_eq_some_iff.1 hi).1
    have h3 : (cur.toList.take (l.length * 1))[i]? = (l.map fun n => Value.int .i64 n)[i]? := by rw [ht]
    rw [List.getElem?_take_of_lt (by omega), List.getElem?_map, hi] at h3
    exact zcell hg (by rw [← Array.getElem?_toList]; exact h3)
/-- What stays while it is asked. -/
def SkC (n : Nat) (w0 : World) (x : Se) (w : World) : Prop := Glob F0 K64 w ∧ w.heap[n]? = some (.cells x.cells.toArray 41 (0, 0)) ∧ Below n w0 w
theorem SkC.below {n : Nat} {w0 : World} {x : Se} {w w' : World} (h : SkC n w0 x w) (hb : Below w.heap.size w w') : SkC n w0 x w' := by
  obtain ⟨h1, h2, h3⟩ := h
  have := zlt h2
  exact ⟨h1.below hb, below_at hb h2 this, h3.trans (hb.mono (by omega))⟩

set_option maxHeartbeats 4000000 in
theorem zsknown_any (w : World) (hG : Glob F0 K64 w) : Calls Tryd.prog 11 #[] w fun e w' => e = .returned (.bool true) ∧ Below w.heap.size w w' := by
  have HG := hide hG
  clear hG
  go_enter Tryd.func11, Tryd.ntmps11
  go_wp2_with fail
  refine (ssum_any w).mono ?_
  rintro e w2 ⟨rfl, rfl⟩
  go_wp2_with ((with_reducible show wpList _ _ _ (⟨some 2, Op.alloc _, _, _, _, _⟩ :: _) _ _); refine Hid.out ?_)
  refine hide ?_
  refine zallocK rfl 41 rfl _ zzeroSe ?_
  intro w3 hg3 hw3 hs3
  obtain ⟨n, hn⟩ : ∃ n, n = w.heap.size := ⟨_, rfl⟩
  have hB3 := below_grown (Below.refl w.heap.size w) hw3 (Nat.le_refl _) (by intro k e; cases e)
  have hG3 := HG.out.below hB3
  have hn1 : 1 < n := by rw [hn]; exact HG.out.2.2.2
  rw [← hn] at hg3 hB3 ⊢
  have HN := hide hn
  clear hw3 hs3 hn
  go_wp2_with ((with_reducible show wpList _ _ _ (⟨none, Op.store _ _ _, _, _, _, _⟩ :: _) _ _); refine Hid.out ?_)
  refine hide ?_
  refine law_store rfl _ _ _ rfl n kE.cells.toArray rfl rfl _ _ hg3 sizeSealed rfl (seC_one _) ?_
  intro w4 hx4' hw4
  have hC4 : SkC n w kE w4 := ⟨hG3.grown hw4 (by omega), hx4'.out, below_grown hB3 hw4 (by have := zlt hg3; omega) (by intro k e; cases e; omega)⟩
  clear hx4' hw4 hB3 hG3 hg3
  obtain ⟨x, hxx⟩ : ∃ x, x = kE := ⟨_, rfl⟩
  rw [← hxx] at hC4
  have hx : x.Ok := hxx ▸ kE_ok
  have HX := hide hxx
  clear hxx
  simp only [Act.put]
  go_wp2_with ((with_reducible show wpList _ _ _ (⟨some 11, Op.buildSlice _ _ _, _, _, _, _⟩ :: _) _ _); refine Hid.out ?_)
  refine hide ?_
  refine wpList_digs rfl _ [z32, z32] rfl (by simp) (by simp) (by intro D hD; simp only [List.mem_cons, List.not_mem_nil, or_false] at hD; rcases hD with rfl | rfl <;> exact z32_length) (by simp [Act.eval]) ?_
  intro u5 w5 hr5 hb5
  have hC5 := hC4.below hb5
  clear hC4 hb5
  have c0 : w5.cell? ⟨n, 0, none⟩ = some (.int .i64 x.r) := zcell hC5.2.1 rfl
  have c1 : w5.cell? ⟨n, 1, none⟩ = some (.int .i64 x.c) := zcell hC5.2.1 rfl
  have c2 : w5.cell? ⟨n, 2, none⟩ = some (.int .u64 x.b) := zcell hC5.2.1 rfl
  have c3 : w5.cell? ⟨n, 3, none⟩ = some (.int .u64 x.n) := zcell hC5.2.1 rfl
  go_wp2_with ((with_reducible show wpList _ _ _ (⟨some 13, Op.buildSlice _ _ _, _, _, _, _⟩ :: _) _ _); refine Hid.out ?_)
  refine hide ?_
  refine wpList_seals rfl _ [x] rfl (by simp) (by simp) (by simp [Act.eval, Se.cells]) ?_
  intro u6 w6 hr6 hb6
  have hC6 := hC5.below hb6
  obtain ⟨ma, rfl, hm⟩ := (hr5.below hb6).rows (k := 32) (by intro D hD; rw [show (Lib.byteCells D).length = D.length by simp [Lib.byteCells]]; simp only [List.mem_cons, List.not_mem_nil, or_false] at hD; rcases hD with rfl | rfl <;> exact z32_length)
  obtain ⟨la, rfl, hl⟩ := hr6.rows (k := 4) (fun _ _ => rfl)
  clear hC5 hb6 hr5 hr6 c0 c1 c2 c3
  go_wp2_with fail
  refine (opened_any false w6 hC6.1 ma 2 [z32, z32] (by intro D hD; simp only [List.mem_cons, List.not_mem_nil, or_false] at hD; rcases hD with rfl | rfl <;> exact z32_length) (by simp) hm la 1 [x] (by simp) (by intro z hz; simp only [List.mem_cons, List.not_mem_nil, or_false] at hz; exact hz ▸ hx) hl).mono ?_
  rintro e w7 ⟨v7, rfl, ho7, hB7⟩
  have hC7 := hC6.below hB7
  rw [show foundL false [z32, z32] [x] = [-1, -1] by rfl] at ho7
  obtain ⟨g7, cap7, rfl, hg7, hat7⟩ := ho7.at (by simp)
  have k70 := hat7 0 _ rfl
  have k71 := hat7 1 _ rfl
  clear hC6 hB7 ho7 hat7 hm hl
  have c0 : w7.cell? ⟨n, 0, none⟩ = some (.int .i64 x.r) := zcell hC7.2.1 rfl
  have c1 : w7.cell? ⟨n, 1, none⟩ = some (.int .i64 x.c) := zcell hC7.2.1 rfl
  have c2 : w7.cell? ⟨n, 2, none⟩ = some (.int .u64 x.b) := zcell hC7.2.1 rfl
  have c3 : w7.cell? ⟨n, 3, none⟩ = some (.int .u64 x.n) := zcell hC7.2.1 rfl
  have nm := nil_ahead_commit
  have mm := method_commit
  go_wp2_with fail
  refine (scommit_any w7 x hx hC7.1).mono ?_
  rintro e w8 ⟨rfl, hB8⟩
  have hC8 := hC7.below hB8
  have k80 := (hB8.cell (p := ⟨g7, 0, none⟩) hg7).trans k70
  have k81 := (hB8.cell (p := ⟨g7, 1, none⟩) hg7).trans k71
  have hg8 := Nat.lt_of_lt_of_le hg7 hB8.size
  obtain ⟨CX, hCX⟩ : ∃ CX, CX = comS x := ⟨_, rfl⟩
  have hl1 : CX.length = 32 := hCX ▸ comS_length x
  rw [← hCX]
  clear hC7 hB8 k70 k71 hg7 c0 c1 c2 c3 nm mm hCX
  go_wp2_with ((with_reducible show wpList _ _ _ (⟨some 19, Op.buildSlice _ _ _, _, _, _, _⟩ :: _) _ _); refine Hid.out ?_)
  refine hide ?_
  refine wpList_digs rfl _ [CX] rfl (by simp) (by simp) (by intro D hD; simp only [List.mem_cons, List.not_mem_nil, or_false] at hD; exact hD ▸ hl1) (by simp [Act.eval]) ?_
  intro u9 w9 hr9 hb9
  have hC9 := hC8.below hb9
  have k90 := (hb9.cell (p := ⟨g7, 0, none⟩) hg8).trans k80
  have k91 := (hb9.cell (p := ⟨g7, 1, none⟩) hg8).trans k81
  have hg9 := Nat.lt_of_lt_of_le hg8 hb9.size
  obtain ⟨ma9, rfl, hm9⟩ := hr9.rows (k := 32) (by intro D hD; rw [show (Lib.byteCells D).length = D.length by simp [Lib.byteCells]]; simp only [List.mem_cons, List.not_mem_nil, or_false] at hD; exact hD ▸ hl1)
  clear hC8 hb9 k80 k81 hg8 hr9
  go_wp2_with fail
  refine (opened_any true w9 hC9.1 ma9 1 [CX] (by intro D hD; simp only [List.mem_cons, List.not_mem_nil, or_false] at hD; exact hD ▸ hl1) (by simp) hm9 none 0 [] (by simp) (by simp) (by simp)).mono ?_
  rintro e w10 ⟨v10, rfl, ho10, hB10⟩
  rw [show foundL true [CX] [] = [-1] by rfl] at ho10
  obtain ⟨g10, cap10, rfl, hg10, hat10⟩ := ho10.at (by simp)
  have q10 := hat10 0 _ rfl
  have hC10 := hC9.below hB10
  have k100 := (hB10.cell (p := ⟨g7, 0, none⟩) hg9).trans k90
  have k101 := (hB10.cell (p := ⟨g7, 1, none⟩) hg9).trans k91
  have hg710 := Nat.lt_of_lt_of_le hg9 hB10.size
  clear hC9 hB10 k90 k91 hg9 hm9 ho10 hat10
  go_wp2_with fail
  refine (sworks_any w10 hC10.1).mono ?_
  rintro e w11 ⟨rfl, hB11⟩
  have hC11 := hC10.below hB11
  have k110 := (hB11.cell (p := ⟨g7, 0, none⟩) hg710).trans k100
  have k111 := (hB11.cell (p := ⟨g7, 1, none⟩) hg710).trans k101
  have q11 := (hB11.cell (p := ⟨g10, 0, none⟩) hg10).trans q10
  have hg711 := Nat.lt_of_lt_of_le hg710 hB11.size
  have hg1011 := Nat.lt_of_lt_of_le hg10 hB11.size
  clear hC10 hB11 k100 k101 q10 hg10 hg710
  have c0 : w11.cell? ⟨n, 0, none⟩ = some (.int .i64 x.r) := zcell hC11.2.1 rfl
  have c1 : w11.cell? ⟨n, 1, none⟩ = some (.int .i64 x.c) := zcell hC11.2.1 rfl
  have c2 : w11.cell? ⟨n, 2, none⟩ = some (.int .u64 x.b) := zcell hC11.2.1 rfl
  have c3 : w11.cell? ⟨n, 3, none⟩ = some (.int .u64 x.n) := zcell hC11.2.1 rfl
  go_wp2_with fail
  refine (bytes_any w11 x hx).mono ?_
  rintro e w12 ⟨rfl, hB12⟩
  have hC12 := hC11.below hB12
  have k120 := (hB12.cell (p := ⟨g7, 0, none⟩) hg711).trans k110
  have k121 := (hB12.cell (p := ⟨g7, 1, none⟩) hg711).trans k111
  have q12 := (hB12.cell (p := ⟨g10, 0, none⟩) hg1011).trans q11
  rw [HX.out, kE_bytes]
  have hkt := ktE_list
  clear hC11 hB12 k110 k111 q11 hg711 hg1011 c0 c1 c2 c3
  have c0 : w12.cell? ⟨n, 0, none⟩ = some (.int .i64 x.r) := zcell hC12.2.1 rfl
  have c1 : w12.cell? ⟨n, 1, none⟩ = some (.int .i64 x.c) := zcell hC12.2.1 rfl
  have c2 : w12.cell? ⟨n, 2, none⟩ = some (.int .u64 x.b) := zcell hC12.2.1 rfl
  have c3 : w12.cell? ⟨n, 3, none⟩ = some (.int .u64 x.n) := zcell hC12.2.1 rfl
  go_wp2_with ((with_reducible show wpList _ _ _ (⟨some 58, Op.buildSlice _ _ _, _, _, _, _⟩ :: _) _ _); refine Hid.out ?_)
  refine hide ?_
  refine wpList_step fun K hK => ?_
  rw [if_pos (by rfl)]
  refine wp_seals _ [x] rfl (by simp) (by simp) (by simp [Act.eval, Se.cells]) ?_
  intro u13 w13 hr13 hb13
  refine hK _ _ ?_
  have hC13 := hC12.below hb13
  obtain ⟨la, rfl, hl⟩ := hr13.rows (k := 4) (fun _ _ => rfl)
  clear hC12 hb13 hr13 c0 c1 c2 c3 k120 k121 q12
  go_wp2_with fail
  refine (opened_any true w13 hC13.1 none 0 [] (by simp) (by simp) (by simp) la 1 [x] (by simp) (by intro z hz; simp only [List.mem_cons, List.not_mem_nil, or_false] at hz; exact hz ▸ hx) hl).mono ?_
  rintro e w14 ⟨v14, rfl, ho14, hB14⟩
  have hC14 := hC13.below hB14
  obtain ⟨a14, c14, rfl⟩ : ∃ a c, v14 = .slice a 0 c := by
    rcases ho14.2 with h | ⟨g, cap, cur, h1, _⟩
    · exact ⟨_, _, h.1⟩
    · exact ⟨_, _, h1⟩
  clear hC13 hB14 ho14 hl
  go_wp2
  go_ret
  exact ⟨rfl, HN.out ▸ hC14.2.2⟩
end Go.Proofs.YtpkgmoiffegbfaaDoor
