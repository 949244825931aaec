/- Layer 16: parts, as many as are asked of, their texts cut: the walk through cut. Condition: the parts lie in a slice. -/
import Derived.Test.YtpkgmoiffegbfaaBack
import Derived.Deep.LoopGhost
import Derived.Maps.AppendAt
import Derived.Deep.CutRange
namespace Go.Proofs.Ytpkgmoiffegbfaa
open Go.RowKit Go.BigFrame
set_option maxRecDepth 20000

/-- A part, its text cut. -/
def cutP (p : Pt) : Pt := { p with t := p.t.extract 0 (min p.t.size 300) }
def Pt.cells (p : Pt) : List Value := [.int .u64 p.n, .int .u8 p.wd, .string p.t, .bool p.b]
theorem Pt.cells_length (p : Pt) : p.cells.length = 4 := rfl
def ptCells (ps : List Pt) : List Value := ps.flatMap Pt.cells
theorem ptCells_length (ps : List Pt) : (ptCells ps).length = ps.length * 4 := by
  induction ps with
  | nil => rfl
  | cons p ps ih => simp only [ptCells, List.flatMap_cons, List.length_append, Pt.cells_length, List.length_cons] at ih ⊢; omega
theorem ptCells_at (ps : List Pt) (i : Nat) (p : Pt) (h : ps[i]? = some p) (j : Nat) (hj : j < 4) : (ptCells ps)[i * 4 + j]? = p.cells[j]? := by
  induction ps generalizing i with
  | nil => simp at h
  | cons q ps ih =>
    simp only [ptCells, List.flatMap_cons]
    cases i with
    | zero =>
      simp at h
      subst h
      rw [List.getElem?_append_left (by rw [Pt.cells_length]; omega)]
      simp
    | succ i =>
      simp at h
      rw [List.getElem?_append_right (by rw [Pt.cells_length]; omega), Pt.cells_length]
      have := ih i h
      simp only [ptCells] at this
      rw [← this]
      congr 1
      omega
theorem cutP_ok (p : Pt) (h1 : p.n < 18446744073709551616) (h2 : p.wd < 256) : (cutP p).ok := by
  refine ⟨h1, h2, ?_⟩
  show (p.t.extract 0 (min p.t.size 300)).size ≤ 300
  rw [ByteArray.size_extract]
  omega
theorem extract_all (t : ByteArray) : t.extract 0 t.size = t := by
  apply ByteArray.ext
  rw [ByteArray.data_extract]
  exact Array.extract_size
theorem partInfo : (Try.prog.info? 53).map (fun i => (i.zero, i.size, i.bytes)) = some (some (.agg #[.int .u64 0, .int .u8 0, .string ⟨#[]⟩, .bool false]), 4, 40) := by kernel_rfl

/-- A row of parts that the call has made. -/
def OutAt (N : Nat) (w : World) (v : Value) (ps : List Pt) : Prop :=
  (v = .slice none 0 0 ∧ ps = []) ∨ ∃ g cap, v = .slice (some ⟨g, 0, none⟩) ps.length cap ∧ N ≤ g ∧ g < w.heap.size ∧ PartsAt w g 0 ps
theorem own_out {w : World} {N n : Nat} {v : Value} {ps : List Pt} (ho : w.ownsRow N 53 4 v n (ptCells ps)) (hn : ps.length = n) : OutAt N w v ps := by
  rcases ho.2 with ⟨rfl, rfl⟩ | ⟨g, cap, cur, rfl, hNg, hgb, hrest⟩
  · exact .inl ⟨rfl, List.length_eq_zero_iff.1 hn⟩
  · refine .inr ⟨g, cap, by rw [hn], hNg, (ho.lt g rfl).2, fun i p hp => ?_⟩
    have hc : ∀ j x, j < 4 → p.cells[j]? = some x → w.cell? ⟨g, 0 + i * 4 + j, none⟩ = some x := fun j x hj hx => by
      have h := ho.cells (g := g) rfl (i * 4 + j) x (by rw [ptCells_at ps i p hp j hj, hx])
      have e : (⟨g, 0, none⟩ : Addr).add (i * 4 + j) = ⟨g, 0 + i * 4 + j, none⟩ := by unfold Addr.add; split <;> simp_all <;> omega
      rw [← e]
      exact h
    exact ⟨hc 0 _ (by decide) rfl, hc 1 _ (by decide) rfl, hc 2 _ (by decide) rfl, hc 3 _ (by decide) rfl⟩

theorem news_at (W : World) (X : Array Value) (t : TypeId) (B : Nat) (hB : B = W.heap.size) (cs : List Value) (h : X.toList = cs) : ∀ j u, cs[j]? = some u → (W.alloc (.cells X t)).cell? ((⟨B, 0, none⟩ : Addr).add j) = some u := by
  intro j u hu
  have e : (⟨B, 0, none⟩ : Addr).add j = ⟨B, j, none⟩ := by unfold Addr.add; split <;> simp_all
  rw [e, hB]
  refine cellAt (heap_alloc_new W _) ?_
  rw [← Array.getElem?_toList, h, hu]
theorem cutP_le (p : Pt) (h : p.t.size ≤ 300) : (cutP p).cells = [.int .u64 p.n, .int .u8 p.wd, .string p.t, .bool p.b] := by
  simp only [Pt.cells, cutP, Nat.min_eq_left h, extract_all]
theorem cutP_gt (p : Pt) (h : ¬ p.t.size ≤ 300) : (cutP p).cells = [.int .u64 p.n, .int .u8 p.wd, .string (p.t.extract 0 300), .bool p.b] := by
  simp only [Pt.cells, cutP, Nat.min_eq_right (show 300 ≤ p.t.size by omega)]
theorem cells_one (p : Pt) : ∀ u ∈ p.cells, u.oneCell' = true := by simp [Pt.cells, Value.oneCell']
theorem ptCells_snoc (ps : List Pt) (p : Pt) : ptCells (ps ++ [p]) = ptCells ps ++ p.cells := by simp [ptCells]

set_option maxHeartbeats 4000000 in
theorem cut_some (ps : List Pt) (bk off cap : Nat) (w : World) (hl : ps.length ≤ 9223372036854775807) (hat : PartsAt w bk off ps) (hbk : bk < w.heap.size) (hts : ∀ p ∈ ps, p.t.size ≤ 9223372036854775807) :
    Calls Try.prog 24 #[.slice (some ⟨bk, off, none⟩) ps.length cap] w fun e w' => ∃ v, e = .returned v ∧ OutAt w.heap.size w' v ((ps.take 16).map cutP) ∧ Below w.heap.size w w' := by
  obtain ⟨i0, hi, hz0, hz1, hz2⟩ := info_parts partInfo
  have HAT := hide hat
  have HTS := hide hts
  clear hat hts
  go_enter Try.func24, Try.ntmps24
  go_wp2
  go_loopg [3, 4] 16 (fun g v i wi => ∃ j : Nat, j ≤ ps.length ∧ j ≤ 16 ∧ g = 16 - j ∧ i = .int .i64 j ∧ wi.ownsRow w.heap.size 53 4 v j (ptCells ((ps.take j).map cutP)) ∧ Below w.heap.size w wi)
  case atStart => exact ⟨0, Nat.zero_le _, Nat.zero_le _, rfl, rfl, World.ownsRow_nil _ _ _ _, Below.refl _ _⟩
  case round =>
    obtain ⟨j, hj, hj16, rfl, rfl, hown, hB⟩ := hrel
    by_cases hlt : j < ps.length ∧ j < 16
    · obtain ⟨h1, h2⟩ := hlt
      obtain ⟨p, hp⟩ : ∃ p, ps[j]? = some p := ⟨_, List.getElem?_eq_getElem h1⟩
      obtain ⟨q0, q1, q2, q3⟩ := HAT.out j p hp
      have hblk := hB.block bk hbk
      have c0 := (World.cell?_of_block (a := ⟨bk, off + j * 4, none⟩) hblk).trans q0
      have c1 := (World.cell?_of_block (a := ⟨bk, off + j * 4 + 1, none⟩) hblk).trans q1
      have c2 := (World.cell?_of_block (a := ⟨bk, off + j * 4 + 2, none⟩) hblk).trans q2
      have c3 := (World.cell?_of_block (a := ⟨bk, off + j * 4 + 3, none⟩) hblk).trans q3
      have hsz := HTS.out p (List.mem_of_getElem? hp)
      have hsnoc : (ps.take (j + 1)).map cutP = (ps.take j).map cutP ++ [cutP p] := by
        have e : ps.take (j + 1) = ps.take j ++ [p] := by rw [List.take_add_one, hp]; rfl
        rw [e, List.map_append]; rfl
      have hN1 := hB.size
      have hj0 : (0 : Int) ≤ (j : Int) := by omega
      have hjl : (j : Int) < (ps.length : Int) := by omega
      have hj6 : (j : Int) < 16 := by omega
      have HSN := hide hsnoc
      clear q0 q1 q2 q3 hblk hsnoc hp
      by_cases h300 : p.t.size ≤ 300
      · go_upto_region 7 with (fail)
        go_wp2_with (at_builtin; refine wpList_append_own _ rfl _ _ 44 rfl w.heap.size 53 i0 (.agg #[.int .u64 0, .int .u8 0, .string ⟨#[]⟩, .bool false]) 4 40 Try.underlying44 hi hz0 hz1 hz2 rfl (by decide) _ _ _ rfl ((hown.alloc _).alloc _) ⟨wr.heap.size + 1, 0, none⟩ 1 1 (cutP p).cells rfl rfl (news_at _ _ _ _ (by simp) _ (cutP_le p h300).symm) (cells_one _) (by unfold maxLen; omega) (by omega) (by simp; omega) ?_; intro v' w1 hown' hgrow _)
        have hB1 := below_grown ((hB.alloc hN1 _).alloc (by rw [World.size_alloc]; omega) _) hgrow (by rw [World.size_alloc, World.size_alloc]; omega) (fun k hk => (hown.lt k hk).1)
        rw [← ptCells_snoc, ← HSN.out] at hown'
        clear hgrow hown hB c0 c1 c2 c3
        go_wp2
        go_roundg (16 - (j + 1))
        case measure => omega
        case rel => exact ⟨j + 1, by omega, by omega, rfl, by simp, hown', hB1⟩
      · go_upto_region 7 with (fail)
        go_wp2_with (at_builtin; refine wpList_append_own _ rfl _ _ 44 rfl w.heap.size 53 i0 (.agg #[.int .u64 0, .int .u8 0, .string ⟨#[]⟩, .bool false]) 4 40 Try.underlying44 hi hz0 hz1 hz2 rfl (by decide) _ _ _ rfl ((hown.alloc _).alloc _) ⟨wr.heap.size + 1, 0, none⟩ 1 1 (cutP p).cells rfl rfl (news_at _ _ _ _ (by simp) _ (cutP_gt p h300).symm) (cells_one _) (by unfold maxLen; omega) (by omega) (by simp; omega) ?_; intro v' w1 hown' hgrow _)
        have hB1 := below_grown ((hB.alloc hN1 _).alloc (by rw [World.size_alloc]; omega) _) hgrow (by rw [World.size_alloc, World.size_alloc]; omega) (fun k hk => (hown.lt k hk).1)
        rw [← ptCells_snoc, ← HSN.out] at hown'
        clear hgrow hown hB c0 c1 c2 c3
        go_wp2
        go_roundg (16 - (j + 1))
        case measure => omega
        case rel => exact ⟨j + 1, by omega, by omega, rfl, by simp, hown', hB1⟩
    · have e : ps.take j = ps.take 16 := by
        by_cases h6 : j = 16
        · rw [h6]
        · rw [List.take_of_length_le (by omega), List.take_of_length_le (by omega)]
      rw [e] at hown
      have hlen : ((ps.take 16).map cutP).length = j := by rw [List.length_map, ← e, List.length_take]; omega
      have hout := own_out hown hlen
      clear e
      by_cases h1 : j < ps.length
      · have hjl : (j : Int) < (ps.length : Int) := by omega
        obtain rfl : j = 16 := by omega
        go_wp2
        go_ret
        exact ⟨_, rfl, hout, hB⟩
      · obtain rfl : j = ps.length := by omega
        go_wp2
        go_ret
        exact ⟨_, rfl, hout, hB⟩
theorem cut_nil (a : Option Addr) (cap : Nat) (w : World) : Calls Try.prog 24 #[.slice a 0 cap] w fun e w' => ∃ v, e = .returned v ∧ OutAt w.heap.size w' v [] ∧ Below w.heap.size w w' := by
  go_enter Try.func24, Try.ntmps24
  go_wp2
  go_loop [3, 4] (fun v i => v = .slice none 0 0 ∧ i = .int .i64 0) (fun _ _ => 0)
  case atStart => exact ⟨rfl, rfl⟩
  case round =>
    obtain ⟨rfl, rfl⟩ := hrel
    go_wp2
    go_ret
    exact ⟨_, rfl, .inl ⟨rfl, rfl⟩, Below.refl _ _⟩
theorem row_nil (a : Option Addr) (cap : Nat) (w : World) : Calls Try.prog 25 #[.slice a 0 cap] w fun e w' => e = .returned (.tuple #[.string ⟨#[]⟩, .bool true]) ∧ w = w' := by
  go_enter Try.func25, Try.ntmps25
  go_wp2
  go_loop [4, 5] (fun v i => v = .string ⟨#[]⟩ ∧ i = .int .i64 0) (fun _ _ => 0)
  case atStart => exact ⟨rfl, rfl⟩
  case round =>
    obtain ⟨rfl, rfl⟩ := hrel
    go_wp2
    go_ret2
    exact ⟨rfl, rfl⟩
theorem reads_nil (N : Nat) (a : Option Addr) (cap : Nat) (w : World) : Calls Try.prog 26 #[.pointer (some ⟨N, 0, none⟩), .slice a 0 cap] w fun e w' => e = .returned (.bool true) ∧ w = w' := by
  go_enter Try.func26, Try.ntmps26
  go_wp2
  go_loop [5] (fun i => i = .int .i64 0) (fun _ => 0)
  case atStart => rfl
  case round =>
    subst hrel
    go_wp2
    go_ret
    exact ⟨rfl, rfl⟩
end Go.Proofs.Ytpkgmoiffegbfaa
