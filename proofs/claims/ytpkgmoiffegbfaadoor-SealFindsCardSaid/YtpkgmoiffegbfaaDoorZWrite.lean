/- What Write does to a hash: the walk. No condition but sizes. -/
import Derived.Test.YtpkgmoiffegbfaaDoorZTake
import Derived.Test.YtpkgmoiffegbfaaDoorZRange
namespace Go.Proofs.YtpkgmoiffegbfaaDoor
open Go.RowKit Go.BigFrame Go.Shelf
set_option maxRecDepth 100000

theorem sizeStr : (Tryd.prog.info? 9).map (·.size) = some 1 := by kernel_rfl
theorem blocks_any (s : ByteArray) (w : World) :
    Calls Tryd.prog 30 #[.string s] w fun e w' => e = .returned (.func (.func 41) #[] #[.pointer (some ⟨w.heap.size, 0, none⟩)]) ∧ w' = w.alloc (.cells #[.string s] 9) := by
  go_enter Tryd.func30, Tryd.ntmps30
  go_wp2
  go_ret
  exact ⟨rfl, rfl⟩

/-- The length of a string's variable. -/
def strAt (w : World) (b : Nat) : Nat := match w.heap[b]? with
  | some (.cells cs _ _) => (match (cs.toList : List Value) with | [.string s] => s.size | _ => 0)
  | _ => 0
theorem iter_any (n l sb : Nat) (hn : 1 ≤ n) (str : ByteArray) (hstr : str.size ≤ 9223372036854775807) (J : Nat → World → Prop)
    (hJ : ∀ k W W', J k W → W.grownBy W' (some sb) → (∃ o : Obj, W.heap[sb]? = some o ∧ o.isCells = true) → J k W')
    (hY : ∀ k W, k < str.size / 64 → J k W → YieldAt Fence.wide (n - 1) Tryd.prog l #[.string (str.extract (k * 64) (k * 64 + 64))] W fun e W' => e = .returned (.bool true) ∧ W'.heap[sb]? = W.heap[sb]? ∧ J (k + 1) W')
    (W : World) (h0 : J 0 W) (hs : W.heap[sb]? = some (.cells #[.string str] 9 (0, 0))) :
    CallsIn Fence.wide n Tryd.prog 41 #[.func (.yield l) #[] #[], .pointer (some ⟨sb, 0, none⟩)] W fun e W' => (∃ v, e = .returned v) ∧ J (str.size / 64) W' := by
  refine callsIn_of_wp Tryd.func41 rfl trivial ?_ rfl
  simp only [Tryd.ntmps41, List.size_toArray, List.length_cons, List.length_nil, Nat.reduceAdd, Nat.reduceSub, Array.replicate_succ, Array.replicate_zero, List.push_toArray, List.append_toArray, List.nil_append, List.cons_append]
  gi_wp2
  gi_loopw [3] (fun _ wr => ∃ k : Nat, k ≤ str.size / 64 ∧ J k wr ∧ wr.heap[sb]? = some (.cells #[.string (str.extract (k * 64) str.size)] 9 (0, 0))) (fun _ wr => strAt wr sb)
  case atStart => exact ⟨0, Nat.zero_le _, h0, by rw [hs]; simp⟩
  case round =>
    obtain ⟨k, hk, hj, hsc⟩ := hrel
    clear h0 hs
    obtain ⟨p, hp⟩ : ∃ p, p = str.extract (k * 64) str.size := ⟨_, rfl⟩
    have hps : p.size = str.size - k * 64 := by rw [hp, ByteArray.size_extract]; omega
    rw [← hp] at hsc
    have hm : strAt wr sb = p.size := by unfold strAt; rw [hsc]
    have HP := hide (And.intro hp (And.intro hps hm))
    have hc : wr.cell? ⟨sb, 0, none⟩ = some (.string p) := zcell hsc rfl
    by_cases hlt : k < str.size / 64
    · have h64 : (64 : Int) ≤ (p.size : Int) := by omega
      have hsz : p.size ≤ 9223372036854775807 := by omega
      have e1 : p.extract 0 64 = str.extract (k * 64) (k * 64 + 64) := by
        rw [hp, ByteArray.extract_extract]
        congr 1
        try omega
      have e2 : p.extract 64 p.size = str.extract ((k + 1) * 64) str.size := by
        rw [hps, hp, ByteArray.extract_extract]
        congr 1 <;> omega
      have hy0 := hY k wr hlt hj
      rw [← e1] at hy0
      have HE := hide e2
      clear hp hps hm e1 e2
      obtain ⟨fn, tmps, assign, body, hy, hR⟩ := hy0
      gi_wp2
      refine hR.mono ?_
      rintro e W' ⟨rfl, hs', hj'⟩
      rw [hsc] at hs'
      have hc' : W'.cell? ⟨sb, 0, none⟩ = some (.string p) := zcell hs' rfl
      have hf' : W'.frozen? ⟨sb, 0, none⟩ = false := frozen_of_row W' sb 0 _ _ hs'
      clear hy hR hsc hj hc
      gi_wp2
      have hn' := heap_setCell_same W' sb 0 #[.string p] 9 (.string (p.extract 64 p.size)) hs'
      have hg' : W'.grownBy (W'.setCell ⟨sb, 0, none⟩ (.string (p.extract 64 p.size))) (some sb) := ⟨rfl, rfl, rfl, by simp [World.setCell], fun k _ hk => heap_setCell_other W' _ k _ (fun e => hk (by rw [e]))⟩
      refine ⟨⟨k + 1, hlt, hJ _ _ _ hj' hg' ⟨_, hs', rfl⟩, ?_⟩, ?_⟩
      · rw [hn', ← HE.out]; rfl
      · obtain ⟨_, hps, hm⟩ := HP.out
        rw [hm]
        unfold strAt
        rw [hn']
        show (p.extract 64 p.size).size < p.size
        rw [ByteArray.size_extract]
        omega
    · have h64 : ¬ (64 : Int) ≤ (p.size : Int) := by omega
      obtain rfl : k = str.size / 64 := by omega
      clear hp hps hm hY hJ
      gi_wp2
      go_end0
      exact ⟨⟨_, rfl⟩, hj⟩
attribute [local go_sem] Oper.semAt_some
/-- The cells of a hash. -/
def hcells (s : S8) (rest : ByteArray) (len : Nat) : Array Value := (s.list.map wv ++ [Value.string rest, Value.int .u64 (len : Int)]).toArray
theorem hcells_at8 (s : S8) (rest : ByteArray) (len : Nat) : (hcells s rest len)[8]? = some (.string rest) := rfl
theorem hcells_at9 (s : S8) (rest : ByteArray) (len : Nat) : (hcells s rest len)[9]? = some (.int .u64 (len : Int)) := rfl
theorem hcells_set8 (s : S8) (rest r2 : ByteArray) (len : Nat) : (hcells s rest len).setIfInBounds 8 (.string r2) = hcells s r2 len := rfl
theorem hcells_set9 (s : S8) (rest : ByteArray) (len l2 : Nat) : (hcells s rest len).setIfInBounds 9 (.int .u64 (l2 : Int)) = hcells s rest l2 := rfl
/-- The state behind the first blocks. -/
def whole (K : List W) (s : S8) (bs : List UInt8) : Nat → S8
  | 0 => s
  | k + 1 => comp K (whole K s bs k) ((bs.drop (k * 64)).take 64)

set_option maxHeartbeats 4000000 in
theorem write_any (w : World) (hb : Nat) (s : S8) (rest text : ByteArray) (len : Nat) (K : List W) (hK : K.length = 64) (hk : w.rangeAt 1 0 (K.map wv)) (h1 : 1 < hb) (hh : w.heap[hb]? = some (.cells (hcells s rest len) 62 (0, 0)))
    (hr : rest.size ≤ 1000000) (ht : text.size ≤ 1000000) (hl : len ≤ 1000000000000) :
    Calls Tryd.prog 16 #[.pointer (some ⟨hb, 0, none⟩), .string text] w fun e w' => e = .returned (.tuple #[]) ∧
      w'.heap[hb]? = some (.cells (hcells (whole K s (rest ++ text).data.toList ((rest ++ text).size / 64)) ((rest ++ text).extract ((rest ++ text).size / 64 * 64) (rest ++ text).size) (len + text.size)) 62 (0, 0)) ∧ w.grownBy w' (some hb) := by
  refine (callsIn_wide (n := 3)).1 ?_
  refine callsIn_of_wp_marks Tryd.func16 rfl trivial ?_ rfl
  simp only [Tryd.ntmps16, List.size_toArray, List.length_cons, List.length_nil, Nat.reduceAdd, Nat.reduceSub, Array.replicate_succ, Array.replicate_zero, List.push_toArray, List.append_toArray, List.nil_append, List.cons_append]
  have hlt := zlt hh
  have c9 := zcell hh (hcells_at9 s rest len)
  have c8 := zcell hh (hcells_at8 s rest len)
  have f9 := frozen_of_row _ hb 9 _ _ hh
  have f8 := frozen_of_row _ hb 8 _ _ hh
  gi_wp2_with (refine ⟨trivial, ?_⟩; gi_at_call 30; refine (callsIn_wide.2 (blocks_any _ _)).mono ?_; rintro e w' ⟨rfl, rfl⟩)
  obtain ⟨str, hstr⟩ : ∃ str, str = rest ++ text := ⟨_, rfl⟩
  have hss : str.size ≤ 2000000 := by rw [hstr, ByteArray.size_append]; omega
  obtain ⟨L, hL⟩ : ∃ L, L = len + text.size := ⟨_, rfl⟩
  have eL : (len : Int) + (text.size : Int) = (L : Int) := by omega
  have hLB : L ≤ 1000001000000 := by omega
  rw [eL, ← hstr]
  have HSL := hide (And.intro hstr hL)
  clear hstr hL
  have hg1 : w.grownBy (w.setCell ⟨hb, 9, none⟩ (.int .u64 (L : Int))) (some hb) := ⟨rfl, rfl, rfl, by simp [World.setCell], fun k _ hk => heap_setCell_other w _ k _ (fun e => hk (by rw [e]))⟩
  have hh1 := heap_setCell_same w hb 9 _ _ (.int .u64 (L : Int)) hh
  rw [hcells_set9] at hh1
  have hg2 : (w.setCell ⟨hb, 9, none⟩ (.int .u64 (L : Int))).grownBy ((w.setCell ⟨hb, 9, none⟩ (.int .u64 (L : Int))).setCell ⟨hb, 8, none⟩ (.string str)) (some hb) := ⟨rfl, rfl, rfl, by simp [World.setCell], fun k _ hk => heap_setCell_other _ _ k _ (fun e => hk (by rw [e]))⟩
  have hh2 := heap_setCell_same _ hb 8 _ _ (.string str) hh1
  rw [hcells_set8] at hh2
  have hz2 : ((w.setCell ⟨hb, 9, none⟩ (.int .u64 (L : Int))).setCell ⟨hb, 8, none⟩ (.string str)).heap.size = w.heap.size := by simp [World.setCell]
  generalize (w.setCell ⟨hb, 9, none⟩ (.int .u64 (L : Int))).setCell ⟨hb, 8, none⟩ (.string str) = wa at hh2 hz2 hg2 ⊢
  have hga : w.grownBy wa (some hb) := ⟨rfl |>.trans (hg2.os.trans hg1.os), hg2.tape.trans hg1.tape, hg2.output.trans hg1.output, Nat.le_trans hg1.size hg2.size, fun k hk hne => (hg2.block k (Nat.lt_of_lt_of_le hk hg1.size) hne).trans (hg1.block k hk hne)⟩
  have hp1 := new_at wa (.cells #[.pointer (some ⟨hb, 0, none⟩)] 23)
  rw [hz2] at hp1
  have hh3 := alloc_at (.cells #[.string str] 9) (alloc_at (.cells #[.pointer (some ⟨hb, 0, none⟩)] 23) hh2)
  have hp3 := alloc_at (.cells #[.string str] 9) hp1
  have hs3 := new_at (wa.alloc (.cells #[.pointer (some ⟨hb, 0, none⟩)] 23)) (.cells #[.string str] 9)
  have hz3 : ((wa.alloc (.cells #[.pointer (some ⟨hb, 0, none⟩)] 23)).alloc (.cells #[.string str] 9)).heap.size = w.heap.size + 2 := by rw [World.size_alloc, World.size_alloc, hz2]
  rw [World.size_alloc, hz2] at hs3
  have hg3 : w.grownBy ((wa.alloc (.cells #[.pointer (some ⟨hb, 0, none⟩)] 23)).alloc (.cells #[.string str] 9)) (some hb) := ⟨hga.os, hga.tape, hga.output, by omega, fun k hk hne => by
    obtain ⟨o, ho⟩ : ∃ o, wa.heap[k]? = some o := ⟨_, Array.getElem?_eq_getElem (by omega)⟩
    exact ((alloc_at _ (alloc_at _ ho)).trans ho.symm).trans (hga.block k hk hne)⟩
  generalize (wa.alloc (.cells #[.pointer (some ⟨hb, 0, none⟩)] 23)).alloc (.cells #[.string str] 9) = w0 at hh3 hp3 hs3 hz3 hg3 ⊢
  obtain ⟨pb, hpb⟩ : ∃ pb, pb = w.heap.size := ⟨_, rfl⟩
  rw [← hpb] at hp3 hs3 hz3 hlt ⊢
  have HPB := hide hpb
  clear hp1 hh2 hh1 hg1 hg2 hz2 hga c9 c8 f9 f8 hh hpb eL
  have HK := hide hk
  clear hk
  refine zrange (n := 3) (by decide) (gf := 41) (lb := #[.pointer (some ⟨pb + 1, 0, none⟩)]) rfl (enters_of Tryd.func41 (by kernel_rfl) rfl) (pb + 1) (str.size / 64) (fun k => .string (str.extract (k * 64) (k * 64 + 64)))
    (fun k W => W.heap[hb]? = some (.cells (hcells (whole K s str.data.toList k) str L) 62 (0, 0)) ∧ W.heap[pb]? = some (.cells #[.pointer (some ⟨hb, 0, none⟩)] 23 (0, 0)) ∧ w.grownBy W (some hb) ∧ pb + 2 ≤ W.heap.size)
    ?_ ⟨hh3, hp3, hg3, by omega⟩ (by omega) (fun a k => { tmps := (a.tmps.setIfInBounds 30 (.string (str.extract (k * 64) (k * 64 + 64)))).setIfInBounds 4 (.string (str.extract (k * 64) (k * 64 + 64))), defers := [] }) ?assign ?body ?iter ?done
  · rintro k W W' row ⟨j1, j2, j3, j4⟩ hgr hrow
    have hne : ∀ b, b < pb + 2 → some b ≠ row := fun b hb e => by have := hrow b e.symm; omega
    exact ⟨(hgr.block hb (zlt j1) (hne hb (by omega))).trans j1, (hgr.block pb (zlt j2) (hne pb (by omega))).trans j2, ⟨hgr.os.trans j3.os, hgr.tape.trans j3.tape, hgr.output.trans j3.output, Nat.le_trans j3.size hgr.size, fun b hb' hn => (hgr.block b (Nat.lt_of_lt_of_le hb' j3.size) (hne b (by rw [HPB.out]; omega))).trans (j3.block b hb' hn)⟩, Nat.le_trans j4 hgr.size⟩
  case assign =>
    intro l k W K' hK'
    simp only [List.setIfInBounds_toArray, List.set_cons_succ, List.set_cons_zero] at hK'
    gi_wp2
    exact hK'
  case body =>
    rintro l k W hk ⟨j1, j2, j3, j4⟩
    simp only [List.setIfInBounds_toArray, List.set_cons_succ, List.set_cons_zero]
    have cp := zcell (i := 0) j2 rfl
    have hkW : W.rangeAt 1 0 (K.map wv) := fun j v hv => (j3.cell (HK.out j v hv) (by simp; omega))
    have hpz : (str.extract (k * 64) (k * 64 + 64)).size = 64 := by rw [piece_size str _ _ (by omega) (by omega)]; omega
    have htake := take_any W hb (whole K s str.data.toList k) [.string str, .int .u64 (L : Int)] 62 (str.extract (k * 64) (k * 64 + 64)) hpz K hK hkW h1 j1
    have HPD := hide (piece_data str (k * 64) (k * 64 + 64))
    clear hpz hkW
    gi_wp2_with (refine ⟨trivial, ?_⟩; gi_at_call 31; refine (CallsIn.inRound l (callsIn_wide.2 htake)).mono ?_; rintro e W' ⟨rfl, k1, k2⟩)
    refine ⟨fun b o hb' ho _ => (k2.block b (zlt ho) (by simp; omega)).trans ho, k2.block (pb + 1) (by omega) (by simp; omega), ?_, (k2.block pb (zlt j2) (by simp; omega)).trans j2, ⟨k2.os.trans j3.os, k2.tape.trans j3.tape, k2.output.trans j3.output, Nat.le_trans j3.size k2.size, fun b hb' hn => (k2.block b (Nat.lt_of_lt_of_le hb' j3.size) hn).trans (j3.block b hb' hn)⟩, Nat.le_trans j4 k2.size⟩
    rfl
  case iter =>
    rintro l B hB hY W ⟨j1, j2, j3, j4⟩ hb0 hsb
    rw [hs3] at hsb
    refine (iter_any (3 - 1) l (pb + 1) (by decide) str (by omega) (fun k W => (W.heap[hb]? = some (.cells (hcells (whole K s str.data.toList k) str L) 62 (0, 0)) ∧ W.heap[pb]? = some (.cells #[.pointer (some ⟨hb, 0, none⟩)] 23 (0, 0)) ∧ w.grownBy W (some hb) ∧ pb + 2 ≤ W.heap.size) ∧ B W) ?_ ?_ W ⟨⟨j1, j2, j3, j4⟩, hb0⟩ hsb).mono ?_
    · rintro k W W' ⟨⟨j1, j2, j3, j4⟩, hbk⟩ hgr ho
      exact ⟨⟨(hgr.block hb (zlt j1) (by simp; omega)).trans j1, (hgr.block pb (zlt j2) (by simp)).trans j2, ⟨hgr.os.trans j3.os, hgr.tape.trans j3.tape, hgr.output.trans j3.output, Nat.le_trans j3.size hgr.size, fun b hb' hn => (hgr.block b (Nat.lt_of_lt_of_le hb' j3.size) (by have := HPB.out; simp; omega)).trans (j3.block b hb' hn)⟩, Nat.le_trans j4 hgr.size⟩, hB _ _ _ hbk hgr ho⟩
    · rintro k W hk ⟨hj, hbk⟩
      obtain ⟨fn, tmps, assign, body, hy, hR⟩ := hY k W hk hj hbk
      exact ⟨fn, tmps, assign, body, hy, hR.mono fun e w' ⟨h1, h2, h3, h4⟩ => ⟨h1, h2, h3, h4⟩⟩
    · rintro e W' ⟨hv, hj, hbk⟩
      exact ⟨hv, hj, hbk⟩
  case done =>
    rintro D W hD ⟨j1, j2, j3, j4⟩ hdf
    have cp := zcell (i := 0) j2 rfl
    have c8 := zcell j1 (hcells_at8 _ _ _)
    obtain ⟨m, hm⟩ : ∃ m, m = str.size / 64 := ⟨_, rfl⟩
    have e1 : (str.size : Int) / 64 = (m : Int) := by omega
    have m1 : (m : Int) * 64 ≤ (str.size : Int) := by omega
    have m0 : (0 : Int) ≤ (m : Int) := by omega
    have mB : (m : Int) < 1000000 := by omega
    rw [← hm] at j1
    have HMM := hide hm
    clear hm
    gi_wp2_with fail
    refine wpIn_wide.2 ?_
    refine ztail 15 (by kernel_rfl) (by kernel_rfl) ?_
    simp only [List.take_succ_cons, List.take_zero, List.drop_succ_cons, List.drop_zero]
    iterate 15 (go_big_quiet_want; go_big_quiet_op; first | go_big_quiet_on | (refine ⟨_, fun _ _ => rfl, ?_⟩; go_big_quiet_on))
    refine wpQuiet_nil ?_
    refine zstore rfl rfl _ _ _ rfl sizeStr hb 8 (.string (str.extract (m * 64) str.size)) rfl rfl rfl rfl _ _ (w := W.drew) j1 (by simp [hcells, S8.list]) ?_
    intro W2 g1 gg
    rw [hcells_set8] at g1
    have hdf2 := (gg.block D (zlt hdf) (by simp; omega)).trans hdf
    have G2 : w.grownBy W2 (some hb) := ⟨gg.os.trans j3.os, gg.tape.trans j3.tape, gg.output.trans j3.output, Nat.le_trans j3.size gg.size, fun b hb' hn => (gg.block b (Nat.lt_of_lt_of_le hb' j3.size) hn).trans (j3.block b hb' hn)⟩
    obtain ⟨hstr, hL⟩ := HSL.out
    refine ⟨by simp, .inl ⟨_, _, rfl, run_takeDeferred hdf2, ?_⟩⟩
    refine ⟨_, results_none rfl _ _ _, rfl, ?_, ?_⟩
    · rw [← hstr, ← hL, ← HMM.out]
      exact (World.putObj_heap_other (by omega)).trans g1
    · have gp := grownBy_putObj' W2 D (.deferred none)
      exact ⟨gp.os.trans G2.os, gp.tape.trans G2.tape, gp.output.trans G2.output, Nat.le_trans G2.size gp.size, fun b hb' hn => (gp.block b (Nat.lt_of_lt_of_le hb' G2.size) (by have := HPB.out; simp; omega)).trans (G2.block b hb' hn)⟩
end Go.Proofs.YtpkgmoiffegbfaaDoor
