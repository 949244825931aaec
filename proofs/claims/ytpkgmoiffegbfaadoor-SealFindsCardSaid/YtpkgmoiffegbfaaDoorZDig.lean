/- What Digest answers: the walk. No condition but sizes. -/
import Derived.Test.YtpkgmoiffegbfaaDoorZWrite
import Derived.Test.YtpkgmoiffegbfaaDoorZApp
namespace Go.Proofs.YtpkgmoiffegbfaaDoor
open Go.RowKit Go.BigFrame
set_option maxRecDepth 100000
attribute [local go_sem] wI_div bitsW_or bitsW_xor bitsW_and

theorem zsizeDig : (Tryd.prog.info? 28).map (·.size) = some 32 := by kernel_rfl
theorem zzeroDig : (Tryd.prog.info? 28).map (·.zero) = some (some (.agg (dg z32))) := by kernel_rfl
theorem sizeU8z : (Tryd.prog.info? 5).map (·.size) = some 1 := by kernel_rfl
theorem sizeHash : (Tryd.prog.info? 62).map (·.size) = some 10 := by kernel_rfl
def h0 : S8 := ⟨0, 0, 0, 0, 0, 0, 0, 0⟩
theorem zeroHash : (Tryd.prog.info? 62).map (·.zero) = some (some (.agg (hcells h0 ⟨#[]⟩ 0))) := by kernel_rfl
theorem hcells_size (s : S8) (rest : ByteArray) (len : Nat) : (hcells s rest len).size = 10 := by simp [hcells, S8.list]
theorem hcells_one (s : S8) (rest : ByteArray) (len : Nat) : (hcells s rest len).all (·.oneCell') = true := by simp [hcells, S8.list, wv, Value.oneCell']

/-- A number's bytes. -/
def be8 (n : Nat) : List UInt8 := [UInt8.ofNat (n / 2 ^ 56), UInt8.ofNat (n / 2 ^ 48), UInt8.ofNat (n / 2 ^ 40), UInt8.ofNat (n / 2 ^ 32), UInt8.ofNat (n / 2 ^ 24), UInt8.ofNat (n / 2 ^ 16), UInt8.ofNat (n / 2 ^ 8), UInt8.ofNat (n / 2 ^ 0)]
/-- What is laid behind a text of which r bytes are left, and which had len. -/
def padB (r len : Nat) : List UInt8 := 128 :: List.replicate ((119 - r % 64) % 64) 0 ++ be8 (8 * len)
def byteW (y : W) : UInt8 := UInt8.ofNat y.toNat
theorem wrap8W (y : W) : IntKind.u8.wrap (wI y) = ((byteW y).toNat : Int) := by
  unfold byteW wI
  rw [UInt8.toNat_ofNat']
  simp [IntKind.wrap, IntKind.bits, IntKind.signed]
theorem wrap8N (X s : Nat) : (X : Int) / 2 ^ s % 256 = ((UInt8.ofNat (X / 2 ^ s)).toNat : Int) := by
  rw [UInt8.toNat_ofNat']
  have e : (X : Int) / 2 ^ s = ((X / 2 ^ s : Nat) : Int) := by simp
  rw [e]
  generalize X / 2 ^ s = n
  simp
theorem small8 (X s : Nat) (h : X / 2 ^ s < 256) : (X : Int) / 2 ^ s = ((UInt8.ofNat (X / 2 ^ s)).toNat : Int) := by
  have e : (X : Int) / 2 ^ s = ((X / 2 ^ s : Nat) : Int) := by simp
  rw [e, UInt8.toNat_ofNat', Nat.mod_eq_of_lt (by simpa using h)]
/-- The bytes of eight words. -/
def outB (s : S8) : List UInt8 := s.list.flatMap fun (x : W) => [byteW (x >>> 24), byteW (x >>> 16), byteW (x >>> 8), byteW (x >>> 0)]
/-- The state behind what is left and its padding. -/
def lastS (K : List W) (s : S8) (rest : List UInt8) (len : Nat) : S8 := whole K s (rest ++ padB rest.length len) ((rest ++ padB rest.length len).length / 64)

theorem shW_r24 (x : W) : Op.shift .shr .u32 (wI x) .i64 24 = pure (.int .u32 (wI (x >>> 24))) := shW_shr x .i64 24
theorem shW_r16 (x : W) : Op.shift .shr .u32 (wI x) .i64 16 = pure (.int .u32 (wI (x >>> 16))) := shW_shr x .i64 16
theorem shW_r8 (x : W) : Op.shift .shr .u32 (wI x) .i64 8 = pure (.int .u32 (wI (x >>> 8))) := shW_shr x .i64 8
theorem shW_r0 (x : W) : Op.shift .shr .u32 (wI x) .i64 0 = pure (.int .u32 (wI (x >>> 0))) := shW_shr x .i64 0
attribute [local go_sem 2000] shW_r24 shW_r16 shW_r8 shW_r0
theorem ofmod (y : W) : UInt8.ofNat (wI y % 256).toNat = byteW y := by
  unfold byteW wI
  apply UInt8.toNat_inj.1
  rw [UInt8.toNat_ofNat', UInt8.toNat_ofNat']
  omega
/-- The answer while it is written. -/
def outK (s : S8) (i : Nat) : List UInt8 := (outB s).take (4 * i) ++ List.replicate (32 - 4 * i) 0
theorem outK_length (s : S8) (i : Nat) (h : i ≤ 8) : (outK s i).length = 32 := by
  have : (outB s).length = 32 := rfl
  rw [outK, List.length_append, List.length_take, List.length_replicate, this]; omega
theorem outK_succ (s : S8) (i : Nat) (h : i < 8) : ((((outK s i).set (4 * i + 0) (byteW (s.list.getD i 0 >>> 24))).set (4 * i + 1) (byteW (s.list.getD i 0 >>> 16))).set (4 * i + 2) (byteW (s.list.getD i 0 >>> 8))).set (4 * i + 3) (byteW (s.list.getD i 0 >>> 0)) = outK s (i + 1) := by
  match i, h with
  | 0, _ | 1, _ | 2, _ | 3, _ | 4, _ | 5, _ | 6, _ | 7, _ => rfl
  | i + 8, h => exact absurd h (by omega)

set_option maxHeartbeats 8000000 in
theorem digest_any (w : World) (hb : Nat) (s : S8) (rest : ByteArray) (len : Nat) (K : List W) (hK : K.length = 64) (hk : w.rangeAt 1 0 (K.map wv)) (h1 : 1 < w.heap.size) (hh : w.heap[hb]? = some (.cells (hcells s rest len) 62 (0, 0)))
    (hr : rest.size ≤ 1000000) (hl : len ≤ 1000000000000) :
    Calls Tryd.prog 17 #[.pointer (some ⟨hb, 0, none⟩)] w fun e w' => e = .returned (.agg (dg (outB (lastS K s rest.data.toList len)))) ∧ Below w.heap.size w w' := by
  have HK := hide hk
  clear hk
  go_enter Tryd.func17, Tryd.ntmps17
  go_wp2_with ((with_reducible show wpList _ _ _ (⟨some 2, Op.alloc _, _, _, _, _⟩ :: _) _ _); refine Hid.out ?_)
  refine hide ?_
  refine zallocK rfl 28 rfl _ zzeroDig ?_
  intro w2 hg2 hw2 hs2
  obtain ⟨db, hdb⟩ : ∃ db, db = w.heap.size := ⟨_, rfl⟩
  have hbl := zlt hh
  have hh2 := (hw2.block hb hbl (by simp)).trans hh
  have hB2 : Below db w w2 := by rw [hdb]; exact below_grown (Below.refl _ _) hw2 (Nat.le_refl _) (by intro k e; cases e)
  rw [← hdb] at hg2 hs2 hbl h1 ⊢
  have HDB := hide hdb
  clear hdb hw2
  go_wp2_with ((with_reducible show wpList _ _ _ (⟨some 14, Op.load _ _, _, _, _, _⟩ :: _) _ _); refine Hid.out ?_)
  refine hide ?_
  refine wpList_load_row rfl 62 _ rfl hb rfl _ (hcells s rest len) _ _ hh2 Tryd.underlying62 rfl (by rw [hcells_size]; exact sizeHash) ?_
  go_wp2_with ((with_reducible show wpList _ _ _ (⟨some 3, Op.alloc _, _, _, _, _⟩ :: _) _ _); refine Hid.out ?_)
  refine hide ?_
  refine zallocK rfl 62 rfl _ zeroHash ?_
  intro w3 hg3 hw3 hs3
  rw [hs2] at hg3 hs3 ⊢
  have hh3 := (hw3.block hb (by omega) (by simp)).trans hh2
  have hd3 := (hw3.block db (by omega) (by simp)).trans hg2
  have hB3 : Below db w w3 := below_grown hB2 hw3 (by omega) (by intro k e; cases e)
  clear hw3 hh2 hg2 hB2
  go_wp2_with ((with_reducible show wpList _ _ _ (⟨none, Op.store _ _ _, _, _, _, _⟩ :: _) _ _); refine Hid.out ?_)
  refine hide ?_
  refine law_store rfl _ _ _ rfl (db + 1) (hcells s rest len) rfl rfl _ _ hg3 (by rw [hcells_size]; exact sizeHash) (by rw [hcells_size, hcells_size]) (hcells_one _ _ _) ?_
  intro w4 hg4' hw4
  have hg4 := hg4'.out
  have hh4 := (hw4.block hb (by omega) (by simp; omega)).trans hh3
  have hd4 := (hw4.block db (by omega) (by simp)).trans hd3
  have hB4 : Below db w w4 := below_grown hB3 hw4 (by omega) (by intro k e; cases e; omega)
  have hz4 : db + 2 ≤ w4.heap.size := Nat.le_trans (by omega) hw4.size
  clear hg4' hw4 hg3 hh3 hd3 hB3 hs3 hs2
  go_wp2_with ((with_reducible show wpList _ _ _ (⟨some 15, _, _, _, _, _⟩ :: _) _ _); refine Hid.out ?_)
  refine hide ?_
  refine zmake rfl 1 128 (by decide) (by decide) _ _ rfl rfl rfl ?_
  intro w5 hg5 hw5 hs5
  obtain ⟨pb, hpb⟩ : ∃ pb, pb = w4.heap.size := ⟨_, rfl⟩
  rw [← hpb] at hg5 hs5 hz4 ⊢
  have hh5 := (hw5.block hb (by omega) (by simp)).trans hh4
  have hd5 := (hw5.block db (by omega) (by simp)).trans hd4
  have hc5 := (hw5.block (db + 1) (by omega) (by simp)).trans hg4
  have hB5 : Below db w w5 := below_grown hB4 hw5 (by omega) (by intro k e; cases e)
  clear hw5 hh4 hd4 hg4 hB4 hpb
  go_wp2_with ((with_reducible show wpList _ _ _ (⟨none, Op.store _ _ _, _, _, _, _⟩ :: _) _ _); refine Hid.out ?_)
  refine hide ?_
  refine zstore rfl rfl _ _ _ rfl sizeU8z pb 0 (.int .u8 128) rfl rfl rfl rfl _ _ hg5 (by simp) ?_
  intro w6 hg6 hw6
  have hh6 := (hw6.block hb (by omega) (by simp; omega)).trans hh5
  have hd6 := (hw6.block db (by omega) (by simp; omega)).trans hd5
  have hc6 := (hw6.block (db + 1) (by omega) (by simp; omega)).trans hc5
  have hB6 : Below db w w6 := below_grown hB5 hw6 (by omega) (by intro k e; cases e; omega)
  have hz6 : db + 2 ≤ w6.heap.size := Nat.le_trans (by omega) hw6.size
  have hO6 : OwnB w6 (db + 2) (.slice (some ⟨pb, 0, none⟩) 1 128) (128 :: List.replicate 0 0) := ⟨rfl, .inr ⟨pb, 128, _, rfl, hz4, hg6, by decide, by unfold maxLen; omega, by simp, rfl⟩⟩
  clear hw6 hg6 hh5 hd5 hc5 hB5 hs5 hg5
  obtain ⟨r, hrr⟩ : ∃ r, r = rest.size := ⟨_, rfl⟩
  obtain ⟨z, hz⟩ : ∃ z, z = (119 - r % 64) % 64 := ⟨_, rfl⟩
  go_wp2_with fail
  go_loopg [4] z (fun g v wi => ∃ (j : Nat) (a : Option Addr) (c : Nat), j ≤ z ∧ g = z - j ∧ v = .slice a (j + 1) c ∧ OwnB wi (db + 2) v (128 :: List.replicate j 0) ∧ wi.heap[hb]? = some (.cells (hcells s rest len) 62 (0, 0)) ∧ wi.heap[db]? = some (.cells (dg z32) 28 (0, 0)) ∧ wi.heap[db + 1]? = some (.cells (hcells s rest len) 62 (0, 0)) ∧ Below db w wi ∧ db + 2 ≤ wi.heap.size)
  case atStart => exact ⟨0, _, _, Nat.zero_le _, rfl, rfl, hO6, hh6, hd6, hc6, hB6, hz6⟩
  case round =>
    obtain ⟨j, a, c, hj, rfl, rfl, hO, hhr, hdr, hcr, hB, hzr⟩ := hrel
    clear hO6 hh6 hd6 hc6 hB6 hz6
    have c8 := zcell hhr (hcells_at8 s rest len)
    have hrB : (rest.size : Int) ≤ 1000000 := by omega
    have hjB : (j : Int) < 64 := by omega
    by_cases hlt : j < z
    · have ht : (((rest.size : Int) + ((j : Int) + 1)) % 64 != 56) = true := by rw [← hrr]; simp; omega
      have HZ := hide (And.intro hz hrr)
      clear hz hrr
      go_upto_region 7 with (fail)
      go_wp2_with ((with_reducible show wpList _ _ _ (⟨some 30, _, _, _, _, _⟩ :: _) _ _); refine Hid.out ?_)
      refine hide ?_
      refine zapp rfl _ _ rfl _ rfl wr.heap.size 1 1 rfl [0] rfl (fun i u hu => zcell (new_at _ _) (by simpa [Lib.byteCells] using hu)) (db + 2) (128 :: List.replicate j 0) (hO.grown (World.grownBy_alloc _ _ none) (by intro k e; cases e)) (by simp; omega) (by omega) (by simp; omega) ?_
      intro v' w' hO' hg'
      have hlo : ∀ k, (Value.slice a (j + 1) c).ownBlock = some k → db + 2 ≤ k := fun k e => (World.ownsRow.lt hO k e).1
      have hne : ∀ b, b < db + 2 → some b ≠ (Value.slice a (j + 1) c).ownBlock := fun b hb' e => by have := hlo b e.symm; omega
      have hh' := (hg'.block hb (by simp; omega) (hne hb (by omega))).trans (alloc_at _ hhr)
      have hd' := (hg'.block db (by simp; omega) (hne db (by omega))).trans (alloc_at _ hdr)
      have hc' := (hg'.block (db + 1) (by simp; omega) (hne (db + 1) (by omega))).trans (alloc_at _ hcr)
      have hB' : Below db w w' := below_grown (hB.alloc (by omega) _) hg' (by simp; omega) (by intro k e; have := hlo k e; omega)
      have hz' : db + 2 ≤ w'.heap.size := Nat.le_trans (by simp; omega) hg'.size
      have eL : (128 :: List.replicate j 0 : List UInt8) ++ [0] = 128 :: List.replicate (j + 1) 0 := by rw [List.replicate_succ']; rfl
      rw [eL] at hO'
      obtain ⟨a', c', rfl⟩ := hO'.slice
      rw [show (128 :: List.replicate (j + 1) 0 : List UInt8).length = j + 1 + 1 by simp] at hO' ⊢
      clear hg' hlo hne hO hhr hdr hcr hB hzr c8 ht eL
      go_wp2
      go_roundg (z - (j + 1))
      case measure => omega
      case rel => exact ⟨j + 1, a', c', by omega, rfl, by simp, hO', hh', hd', hc', hB', hz'⟩
    · obtain rfl : j = z := by omega
      have ht : (((rest.size : Int) + ((j : Int) + 1)) % 64 != 56) = false := by rw [← hrr]; simp; omega
      have HZ := hide (And.intro hz hrr)
      clear hz hrr hlt hj
      obtain ⟨P, hP⟩ : ∃ P, P = 128 :: List.replicate j (0 : UInt8) := ⟨_, rfl⟩
      have hPl : P.length = j + 1 := by rw [hP]; simp
      have hPn : P ≠ [] := by rw [hP]; simp
      rw [← hP] at hO
      have HP := hide hP
      clear hP
      obtain ⟨X, hX⟩ : ∃ X : Nat, X = 8 * len := ⟨_, rfl⟩
      have eX : 8 * (len : Int) = (X : Int) := by omega
      have HX := hide hX
      clear hX
      go_wp2_with fail
      clear c8
      refine wp_loop_rounds 9 ?_
      rw [rounds_succ]
      have c9 := zcell hhr (hcells_at9 s rest len)
      go_wp2_with ((with_reducible show wpList _ _ _ (⟨some 45, _, _, _, _, _⟩ :: _) _ _); refine Hid.out ?_)
      refine hide ?_
      refine zapp rfl _ _ rfl _ rfl wr.heap.size 1 1 rfl [UInt8.ofNat (X / 2 ^ 56)] rfl (fun i u hu => zcell (new_at _ _) (by
        have e : (X : Int) / 72057594037927936 = ((UInt8.ofNat (X / 2 ^ 56)).toNat : Int) := small8 X 56 (by have := HX.out; omega)
        rw [e]
        simpa [Lib.byteCells] using hu)) (db + 2) (P) (hO.grown (World.grownBy_alloc _ _ none) (by intro k e; cases e)) (by first | omega | (simp; omega)) (by omega) (by simp; omega) ?_
      intro v' w'0 hO0 hg'
      have hlo : ∀ k, (Value.slice a (j + 1) c).ownBlock = some k → db + 2 ≤ k := fun k e => (World.ownsRow.lt hO k e).1
      have hne : ∀ b, b < db + 2 → some b ≠ (Value.slice a (j + 1) c).ownBlock := fun b hb' e => by have := hlo b e.symm; omega
      have hh0 := (hg'.block hb (by simp; omega) (hne hb (by omega))).trans (alloc_at _ hhr)
      have hd0 := (hg'.block db (by simp; omega) (hne db (by omega))).trans (alloc_at _ hdr)
      have hc0 := (hg'.block (db + 1) (by simp; omega) (hne (db + 1) (by omega))).trans (alloc_at _ hcr)
      have hB0 : Below db w w'0 := below_grown (hB.alloc (by omega) _) hg' (by simp; omega) (by intro k e; have := hlo k e; omega)
      have hz0 : db + 2 ≤ w'0.heap.size := Nat.le_trans (by simp; omega) hg'.size
      clear hlo hne hg' c9 hO hhr hdr hcr hB hzr
      obtain ⟨a0, c0, rfl⟩ := hO0.slice
      rw [show ((P) ++ [UInt8.ofNat (X / 2 ^ 56)]).length = j + 2 by simp [hPl]] at hO0 ⊢
      go_wp2_with fail
      rw [rounds_succ]
      have c9 := zcell hh0 (hcells_at9 s rest len)
      go_wp2_with ((with_reducible show wpList _ _ _ (⟨some 45, _, _, _, _, _⟩ :: _) _ _); refine Hid.out ?_)
      refine hide ?_
      refine zapp rfl _ _ rfl _ rfl w'0.heap.size 1 1 rfl [UInt8.ofNat (X / 2 ^ 48)] rfl (fun i u hu => zcell (new_at _ _) (by
        have e : (X : Int) / 281474976710656 = ((UInt8.ofNat (X / 2 ^ 48)).toNat : Int) := small8 X 48 (by have := HX.out; omega)
        rw [e]
        simpa [Lib.byteCells] using hu)) (db + 2) (P ++ [UInt8.ofNat (X / 2 ^ 56)]) (hO0.grown (World.grownBy_alloc _ _ none) (by intro k e; cases e)) (by first | omega | (simp; omega)) (by omega) (by simp; omega) ?_
      intro v' w'1 hO1 hg'
      have hlo : ∀ k, (Value.slice a0 (j + 2) c0).ownBlock = some k → db + 2 ≤ k := fun k e => (World.ownsRow.lt hO0 k e).1
      have hne : ∀ b, b < db + 2 → some b ≠ (Value.slice a0 (j + 2) c0).ownBlock := fun b hb' e => by have := hlo b e.symm; omega
      have hh1 := (hg'.block hb (by simp; omega) (hne hb (by omega))).trans (alloc_at _ hh0)
      have hd1 := (hg'.block db (by simp; omega) (hne db (by omega))).trans (alloc_at _ hd0)
      have hc1 := (hg'.block (db + 1) (by simp; omega) (hne (db + 1) (by omega))).trans (alloc_at _ hc0)
      have hB1 : Below db w w'1 := below_grown (hB0.alloc (by omega) _) hg' (by simp; omega) (by intro k e; have := hlo k e; omega)
      have hz1 : db + 2 ≤ w'1.heap.size := Nat.le_trans (by simp; omega) hg'.size
      clear hlo hne hg' c9 hO0 hh0 hd0 hc0 hB0 hz0
      obtain ⟨a1, c1, rfl⟩ := hO1.slice
      rw [show ((P ++ [UInt8.ofNat (X / 2 ^ 56)]) ++ [UInt8.ofNat (X / 2 ^ 48)]).length = j + 3 by simp [hPl]] at hO1 ⊢
      go_wp2_with fail
      rw [rounds_succ]
      have c9 := zcell hh1 (hcells_at9 s rest len)
      go_wp2_with ((with_reducible show wpList _ _ _ (⟨some 45, _, _, _, _, _⟩ :: _) _ _); refine Hid.out ?_)
      refine hide ?_
      refine zapp rfl _ _ rfl _ rfl w'1.heap.size 1 1 rfl [UInt8.ofNat (X / 2 ^ 40)] rfl (fun i u hu => zcell (new_at _ _) (by
        have e : (X : Int) / 1099511627776 = ((UInt8.ofNat (X / 2 ^ 40)).toNat : Int) := small8 X 40 (by have := HX.out; omega)
        rw [e]
        simpa [Lib.byteCells] using hu)) (db + 2) (P ++ [UInt8.ofNat (X / 2 ^ 56)] ++ [UInt8.ofNat (X / 2 ^ 48)]) (hO1.grown (World.grownBy_alloc _ _ none) (by intro k e; cases e)) (by first | omega | (simp; omega)) (by omega) (by simp; omega) ?_
      intro v' w'2 hO2 hg'
      have hlo : ∀ k, (Value.slice a1 (j + 3) c1).ownBlock = some k → db + 2 ≤ k := fun k e => (World.ownsRow.lt hO1 k e).1
      have hne : ∀ b, b < db + 2 → some b ≠ (Value.slice a1 (j + 3) c1).ownBlock := fun b hb' e => by have := hlo b e.symm; omega
      have hh2 := (hg'.block hb (by simp; omega) (hne hb (by omega))).trans (alloc_at _ hh1)
      have hd2 := (hg'.block db (by simp; omega) (hne db (by omega))).trans (alloc_at _ hd1)
      have hc2 := (hg'.block (db + 1) (by simp; omega) (hne (db + 1) (by omega))).trans (alloc_at _ hc1)
      have hB2 : Below db w w'2 := below_grown (hB1.alloc (by omega) _) hg' (by simp; omega) (by intro k e; have := hlo k e; omega)
      have hz2 : db + 2 ≤ w'2.heap.size := Nat.le_trans (by simp; omega) hg'.size
      clear hlo hne hg' c9 hO1 hh1 hd1 hc1 hB1 hz1
      obtain ⟨a2, c2, rfl⟩ := hO2.slice
      rw [show ((P ++ [UInt8.ofNat (X / 2 ^ 56)] ++ [UInt8.ofNat (X / 2 ^ 48)]) ++ [UInt8.ofNat (X / 2 ^ 40)]).length = j + 4 by simp [hPl]] at hO2 ⊢
      go_wp2_with fail
      rw [rounds_succ]
      have c9 := zcell hh2 (hcells_at9 s rest len)
      go_wp2_with ((with_reducible show wpList _ _ _ (⟨some 45, _, _, _, _, _⟩ :: _) _ _); refine Hid.out ?_)
      refine hide ?_
      refine zapp rfl _ _ rfl _ rfl w'2.heap.size 1 1 rfl [UInt8.ofNat (X / 2 ^ 32)] rfl (fun i u hu => zcell (new_at _ _) (by
        have e : (X : Int) / 4294967296 % 256 = ((UInt8.ofNat (X / 2 ^ 32)).toNat : Int) := wrap8N X 32
        rw [e]
        simpa [Lib.byteCells] using hu)) (db + 2) (P ++ [UInt8.ofNat (X / 2 ^ 56)] ++ [UInt8.ofNat (X / 2 ^ 48)] ++ [UInt8.ofNat (X / 2 ^ 40)]) (hO2.grown (World.grownBy_alloc _ _ none) (by intro k e; cases e)) (by first | omega | (simp; omega)) (by omega) (by simp; omega) ?_
      intro v' w'3 hO3 hg'
      have hlo : ∀ k, (Value.slice a2 (j + 4) c2).ownBlock = some k → db + 2 ≤ k := fun k e => (World.ownsRow.lt hO2 k e).1
      have hne : ∀ b, b < db + 2 → some b ≠ (Value.slice a2 (j + 4) c2).ownBlock := fun b hb' e => by have := hlo b e.symm; omega
      have hh3 := (hg'.block hb (by simp; omega) (hne hb (by omega))).trans (alloc_at _ hh2)
      have hd3 := (hg'.block db (by simp; omega) (hne db (by omega))).trans (alloc_at _ hd2)
      have hc3 := (hg'.block (db + 1) (by simp; omega) (hne (db + 1) (by omega))).trans (alloc_at _ hc2)
      have hB3 : Below db w w'3 := below_grown (hB2.alloc (by omega) _) hg' (by simp; omega) (by intro k e; have := hlo k e; omega)
      have hz3 : db + 2 ≤ w'3.heap.size := Nat.le_trans (by simp; omega) hg'.size
      clear hlo hne hg' c9 hO2 hh2 hd2 hc2 hB2 hz2
      obtain ⟨a3, c3, rfl⟩ := hO3.slice
      rw [show ((P ++ [UInt8.ofNat (X / 2 ^ 56)] ++ [UInt8.ofNat (X / 2 ^ 48)] ++ [UInt8.ofNat (X / 2 ^ 40)]) ++ [UInt8.ofNat (X / 2 ^ 32)]).length = j + 5 by simp [hPl]] at hO3 ⊢
      go_wp2_with fail
      rw [rounds_succ]
      have c9 := zcell hh3 (hcells_at9 s rest len)
      go_wp2_with ((with_reducible show wpList _ _ _ (⟨some 45, _, _, _, _, _⟩ :: _) _ _); refine Hid.out ?_)
      refine hide ?_
      refine zapp rfl _ _ rfl _ rfl w'3.heap.size 1 1 rfl [UInt8.ofNat (X / 2 ^ 24)] rfl (fun i u hu => zcell (new_at _ _) (by
        have e : (X : Int) / 16777216 % 256 = ((UInt8.ofNat (X / 2 ^ 24)).toNat : Int) := wrap8N X 24
        rw [e]
        simpa [Lib.byteCells] using hu)) (db + 2) (P ++ [UInt8.ofNat (X / 2 ^ 56)] ++ [UInt8.ofNat (X / 2 ^ 48)] ++ [UInt8.ofNat (X / 2 ^ 40)] ++ [UInt8.ofNat (X / 2 ^ 32)]) (hO3.grown (World.grownBy_alloc _ _ none) (by intro k e; cases e)) (by first | omega | (simp; omega)) (by omega) (by simp; omega) ?_
      intro v' w'4 hO4 hg'
      have hlo : ∀ k, (Value.slice a3 (j + 5) c3).ownBlock = some k → db + 2 ≤ k := fun k e => (World.ownsRow.lt hO3 k e).1
      have hne : ∀ b, b < db + 2 → some b ≠ (Value.slice a3 (j + 5) c3).ownBlock := fun b hb' e => by have := hlo b e.symm; omega
      have hh4 := (hg'.block hb (by simp; omega) (hne hb (by omega))).trans (alloc_at _ hh3)
      have hd4 := (hg'.block db (by simp; omega) (hne db (by omega))).trans (alloc_at _ hd3)
      have hc4 := (hg'.block (db + 1) (by simp; omega) (hne (db + 1) (by omega))).trans (alloc_at _ hc3)
      have hB4 : Below db w w'4 := below_grown (hB3.alloc (by omega) _) hg' (by simp; omega) (by intro k e; have := hlo k e; omega)
      have hz4 : db + 2 ≤ w'4.heap.size := Nat.le_trans (by simp; omega) hg'.size
      clear hlo hne hg' c9 hO3 hh3 hd3 hc3 hB3 hz3
      obtain ⟨a4, c4, rfl⟩ := hO4.slice
      rw [show ((P ++ [UInt8.ofNat (X / 2 ^ 56)] ++ [UInt8.ofNat (X / 2 ^ 48)] ++ [UInt8.ofNat (X / 2 ^ 40)] ++ [UInt8.ofNat (X / 2 ^ 32)]) ++ [UInt8.ofNat (X / 2 ^ 24)]).length = j + 6 by simp [hPl]] at hO4 ⊢
      go_wp2_with fail
      rw [rounds_succ]
      have c9 := zcell hh4 (hcells_at9 s rest len)
      go_wp2_with ((with_reducible show wpList _ _ _ (⟨some 45, _, _, _, _, _⟩ :: _) _ _); refine Hid.out ?_)
      refine hide ?_
      refine zapp rfl _ _ rfl _ rfl w'4.heap.size 1 1 rfl [UInt8.ofNat (X / 2 ^ 16)] rfl (fun i u hu => zcell (new_at _ _) (by
        have e : (X : Int) / 65536 % 256 = ((UInt8.ofNat (X / 2 ^ 16)).toNat : Int) := wrap8N X 16
        rw [e]
        simpa [Lib.byteCells] using hu)) (db + 2) (P ++ [UInt8.ofNat (X / 2 ^ 56)] ++ [UInt8.ofNat (X / 2 ^ 48)] ++ [UInt8.ofNat (X / 2 ^ 40)] ++ [UInt8.ofNat (X / 2 ^ 32)] ++ [UInt8.ofNat (X / 2 ^ 24)]) (hO4.grown (World.grownBy_alloc _ _ none) (by intro k e; cases e)) (by first | omega | (simp; omega)) (by omega) (by simp; omega) ?_
      intro v' w'5 hO5 hg'
      have hlo : ∀ k, (Value.slice a4 (j + 6) c4).ownBlock = some k → db + 2 ≤ k := fun k e => (World.ownsRow.lt hO4 k e).1
      have hne : ∀ b, b < db + 2 → some b ≠ (Value.slice a4 (j + 6) c4).ownBlock := fun b hb' e => by have := hlo b e.symm; omega
      have hh5 := (hg'.block hb (by simp; omega) (hne hb (by omega))).trans (alloc_at _ hh4)
      have hd5 := (hg'.block db (by simp; omega) (hne db (by omega))).trans (alloc_at _ hd4)
      have hc5 := (hg'.block (db + 1) (by simp; omega) (hne (db + 1) (by omega))).trans (alloc_at _ hc4)
      have hB5 : Below db w w'5 := below_grown (hB4.alloc (by omega) _) hg' (by simp; omega) (by intro k e; have := hlo k e; omega)
      have hz5 : db + 2 ≤ w'5.heap.size := Nat.le_trans (by simp; omega) hg'.size
      clear hlo hne hg' c9 hO4 hh4 hd4 hc4 hB4 hz4
      obtain ⟨a5, c5, rfl⟩ := hO5.slice
      rw [show ((P ++ [UInt8.ofNat (X / 2 ^ 56)] ++ [UInt8.ofNat (X / 2 ^ 48)] ++ [UInt8.ofNat (X / 2 ^ 40)] ++ [UInt8.ofNat (X / 2 ^ 32)] ++ [UInt8.ofNat (X / 2 ^ 24)]) ++ [UInt8.ofNat (X / 2 ^ 16)]).length = j + 7 by simp [hPl]] at hO5 ⊢
      go_wp2_with fail
      rw [rounds_succ]
      have c9 := zcell hh5 (hcells_at9 s rest len)
      go_wp2_with ((with_reducible show wpList _ _ _ (⟨some 45, _, _, _, _, _⟩ :: _) _ _); refine Hid.out ?_)
      refine hide ?_
      refine zapp rfl _ _ rfl _ rfl w'5.heap.size 1 1 rfl [UInt8.ofNat (X / 2 ^ 8)] rfl (fun i u hu => zcell (new_at _ _) (by
        have e : (X : Int) / 256 % 256 = ((UInt8.ofNat (X / 2 ^ 8)).toNat : Int) := wrap8N X 8
        rw [e]
        simpa [Lib.byteCells] using hu)) (db + 2) (P ++ [UInt8.ofNat (X / 2 ^ 56)] ++ [UInt8.ofNat (X / 2 ^ 48)] ++ [UInt8.ofNat (X / 2 ^ 40)] ++ [UInt8.ofNat (X / 2 ^ 32)] ++ [UInt8.ofNat (X / 2 ^ 24)] ++ [UInt8.ofNat (X / 2 ^ 16)]) (hO5.grown (World.grownBy_alloc _ _ none) (by intro k e; cases e)) (by first | omega | (simp; omega)) (by omega) (by simp; omega) ?_
      intro v' w'6 hO6 hg'
      have hlo : ∀ k, (Value.slice a5 (j + 7) c5).ownBlock = some k → db + 2 ≤ k := fun k e => (World.ownsRow.lt hO5 k e).1
      have hne : ∀ b, b < db + 2 → some b ≠ (Value.slice a5 (j + 7) c5).ownBlock := fun b hb' e => by have := hlo b e.symm; omega
      have hh6 := (hg'.block hb (by simp; omega) (hne hb (by omega))).trans (alloc_at _ hh5)
      have hd6 := (hg'.block db (by simp; omega) (hne db (by omega))).trans (alloc_at _ hd5)
      have hc6 := (hg'.block (db + 1) (by simp; omega) (hne (db + 1) (by omega))).trans (alloc_at _ hc5)
      have hB6 : Below db w w'6 := below_grown (hB5.alloc (by omega) _) hg' (by simp; omega) (by intro k e; have := hlo k e; omega)
      have hz6 : db + 2 ≤ w'6.heap.size := Nat.le_trans (by simp; omega) hg'.size
      clear hlo hne hg' c9 hO5 hh5 hd5 hc5 hB5 hz5
      obtain ⟨a6, c6, rfl⟩ := hO6.slice
      rw [show ((P ++ [UInt8.ofNat (X / 2 ^ 56)] ++ [UInt8.ofNat (X / 2 ^ 48)] ++ [UInt8.ofNat (X / 2 ^ 40)] ++ [UInt8.ofNat (X / 2 ^ 32)] ++ [UInt8.ofNat (X / 2 ^ 24)] ++ [UInt8.ofNat (X / 2 ^ 16)]) ++ [UInt8.ofNat (X / 2 ^ 8)]).length = j + 8 by simp [hPl]] at hO6 ⊢
      go_wp2_with fail
      rw [rounds_succ]
      have c9 := zcell hh6 (hcells_at9 s rest len)
      go_wp2_with ((with_reducible show wpList _ _ _ (⟨some 45, _, _, _, _, _⟩ :: _) _ _); refine Hid.out ?_)
      refine hide ?_
      refine zapp rfl _ _ rfl _ rfl w'6.heap.size 1 1 rfl [UInt8.ofNat (X / 2 ^ 0)] rfl (fun i u hu => zcell (new_at _ _) (by
        have e : (X : Int) % 256 = ((UInt8.ofNat (X / 2 ^ 0)).toNat : Int) := by have := wrap8N X 0; simpa only [Nat.pow_zero, Nat.div_one, Int.pow_zero, Int.ediv_one] using this
        rw [e]
        simpa [Lib.byteCells] using hu)) (db + 2) (P ++ [UInt8.ofNat (X / 2 ^ 56)] ++ [UInt8.ofNat (X / 2 ^ 48)] ++ [UInt8.ofNat (X / 2 ^ 40)] ++ [UInt8.ofNat (X / 2 ^ 32)] ++ [UInt8.ofNat (X / 2 ^ 24)] ++ [UInt8.ofNat (X / 2 ^ 16)] ++ [UInt8.ofNat (X / 2 ^ 8)]) (hO6.grown (World.grownBy_alloc _ _ none) (by intro k e; cases e)) (by first | omega | (simp; omega)) (by omega) (by simp; omega) ?_
      intro v' w'7 hO7 hg'
      have hlo : ∀ k, (Value.slice a6 (j + 8) c6).ownBlock = some k → db + 2 ≤ k := fun k e => (World.ownsRow.lt hO6 k e).1
      have hne : ∀ b, b < db + 2 → some b ≠ (Value.slice a6 (j + 8) c6).ownBlock := fun b hb' e => by have := hlo b e.symm; omega
      have hh7 := (hg'.block hb (by simp; omega) (hne hb (by omega))).trans (alloc_at _ hh6)
      have hd7 := (hg'.block db (by simp; omega) (hne db (by omega))).trans (alloc_at _ hd6)
      have hc7 := (hg'.block (db + 1) (by simp; omega) (hne (db + 1) (by omega))).trans (alloc_at _ hc6)
      have hB7 : Below db w w'7 := below_grown (hB6.alloc (by omega) _) hg' (by simp; omega) (by intro k e; have := hlo k e; omega)
      have hz7 : db + 2 ≤ w'7.heap.size := Nat.le_trans (by simp; omega) hg'.size
      clear hlo hne hg' c9 hO6 hh6 hd6 hc6 hB6 hz6
      obtain ⟨a7, c7, rfl⟩ := hO7.slice
      rw [show ((P ++ [UInt8.ofNat (X / 2 ^ 56)] ++ [UInt8.ofNat (X / 2 ^ 48)] ++ [UInt8.ofNat (X / 2 ^ 40)] ++ [UInt8.ofNat (X / 2 ^ 32)] ++ [UInt8.ofNat (X / 2 ^ 24)] ++ [UInt8.ofNat (X / 2 ^ 16)] ++ [UInt8.ofNat (X / 2 ^ 8)]) ++ [UInt8.ofNat (X / 2 ^ 0)]).length = j + 9 by simp [hPl]] at hO7 ⊢
      go_wp2_with fail
      rw [rounds_succ]
      obtain ⟨pad, hpad⟩ : ∃ pad : List UInt8, pad = P ++ [UInt8.ofNat (X / 2 ^ 56)] ++ [UInt8.ofNat (X / 2 ^ 48)] ++ [UInt8.ofNat (X / 2 ^ 40)] ++ [UInt8.ofNat (X / 2 ^ 32)] ++ [UInt8.ofNat (X / 2 ^ 24)] ++ [UInt8.ofNat (X / 2 ^ 16)] ++ [UInt8.ofNat (X / 2 ^ 8)] ++ [UInt8.ofNat (X / 2 ^ 0)] := ⟨_, rfl⟩
      have hpadB : pad = padB rest.data.toList.length len := by
        obtain ⟨hz, hr'⟩ := HZ.out
        rw [hpad, padB, HP.out, ← HX.out, show rest.data.toList.length = r by rw [hr']; rfl, ← hz]
        simp [be8]
      have hpl : pad.length = j + 9 := by rw [hpad]; simp [hPl]
      rw [← hpad] at hO7
      have HPAD := hide hpadB
      clear hpad hpadB hPl
      go_wp2_with ((with_reducible show wpList _ _ _ (⟨some 47, _, _, _, _, _⟩ :: _) _ _); refine Hid.out ?_)
      refine hide ?_
      refine zstring rfl _ _ _ rfl Tryd.underlying22 Tryd.underlying9 _ rfl (db + 2) pad hO7 (by intro e; rw [e] at hpl; simp at hpl) ?_
      have hpsz : (ByteArray.mk pad.toArray).size = j + 9 := by rw [← hpl]; simp [ByteArray.size]
      have hzl : j ≤ 63 := by have := HZ.out.1; omega
      have hk7 : w'7.rangeAt 1 0 (K.map wv) := fun i v hv => (hB7.cell (p := ⟨1, 0 + i, none⟩) (by show 1 < db; omega)).trans (HK.out i v hv)
      have hpz : (ByteArray.mk pad.toArray).size ≤ 1000000 := by omega
      clear hpsz
      go_wp2_with fail
      refine (write_any w'7 (db + 1) s rest _ len K hK hk7 (by omega) hc7 hr hpz hl).mono ?_
      rintro e w8 ⟨rfl, hc8, hg8⟩
      obtain ⟨S, hS⟩ : ∃ S, S = whole K s (rest ++ ⟨pad.toArray⟩).data.toList ((rest ++ ⟨pad.toArray⟩).size / 64) := ⟨_, rfl⟩
      have hSE : S = lastS K s rest.data.toList len := by
        have e : (rest ++ ⟨pad.toArray⟩ : ByteArray).data.toList = rest.data.toList ++ pad := by rw [ByteArray.data_append]; simp
        have e2 : (rest ++ ⟨pad.toArray⟩ : ByteArray).size = (rest.data.toList ++ pad).length := by rw [← e]; rfl
        rw [hS, e, e2, lastS, HPAD.out]
      rw [← hS] at hc8
      have HSE := hide hSE
      clear hS hSE
      have hd8 := (hg8.block db (zlt hd7) (by simp)).trans hd7
      have hB8 : Below db w w8 := below_grown hB7 hg8 (by omega) (by intro k e; cases e; omega)
      have hr8 : w8.rangeAt (db + 1) 0 (S.list.map wv) := fun i v hv => zcell hc8 (by
        rw [Nat.zero_add, hcells]
        have hi := (List.getElem?_eq_some_iff.1 hv).1
        simp only [List.getElem?_toArray]
        rw [List.getElem?_append_left hi, hv])
      have hz8 : db + 2 ≤ w8.heap.size := Nat.le_trans hz7 hg8.size
      clear hg8 hc8 hO7 hh7 hd7 hc7 hB7 hz7 hk7 hpz
      go_wp2_with ((with_reducible show wpList _ _ _ (⟨some 50, Op.load _ _, _, _, _, _⟩ :: _) _ _); refine Hid.out ?_)
      refine hide ?_
      refine wpList_load_mid rfl 60 _ rfl (db + 1) 0 rfl (S.list.map wv) _ hr8 Tryd.underlying60 rfl (by rw [List.length_map]; kernel_rfl) ?_
      rw [show (S.list.map wv).toArray = ww S.list from rfl]
      clear hr8
      go_wp2_with fail
      go_loopg [51] 8 (fun g v wi => ∃ i : Nat, i ≤ 8 ∧ g = 8 - i ∧ v = .int .i64 i ∧ wi.heap[db]? = some (.cells (dg (outK S i)) 28 (0, 0)) ∧ Below db w wi)
      case atStart => exact ⟨0, by omega, rfl, rfl, hd8, hB8⟩
      case round =>
        obtain ⟨i, hi, rfl, rfl, hd, hBi⟩ := hrel
        clear hd8 hB8 hz8
        by_cases hlt : i < 8
        · have hi0 : (0 : Int) ≤ (i : Int) := by omega
          have hiI : (i : Int) < 8 := by omega
          have hidx := index_ww Tryd.underlying60 S.list rfl i hlt
          have HOK := hide (outK_succ S i hlt)
          have hol := outK_length S i hi
          generalize S.list.getD i 0 = x at hidx HOK
          go_wp2_with fail
          clear hidx
          refine wp_loop_rounds 5 ?_
          rw [rounds_succ]
          have n0a : 4 * (i : Int) + 0 < 32 := by omega
          have n0b : 0 ≤ 4 * (i : Int) + 0 := by omega
          go_wp2_with ((with_reducible show wpList _ _ _ (⟨none, Op.store _ _ _, _, _, _, _⟩ :: _) _ _); refine Hid.out ?_)
          refine hide ?_
          refine law_storeByte rfl _ _ _ rfl Tryd.underlying5 sizeU8z db (4 * i + 0) (wI (x >>> 24) % 256) rfl rfl (by omega) (by omega) (outK S i) _ hd (by simp only [hol]; omega) ?_
          intro w9 hd' hw9
          simp only [Act.put]
          have hBj := below_grown hBi hw9 (by have := zlt hd; have := hBi.size; rw [HDB.out]; exact this) (by intro k e; cases e; exact Nat.le_refl _)
          rw [ofmod] at hd'
          clear hd hBi hw9 n0a n0b
          have hd := hd'.out
          have hBi := hBj
          clear hd' hBj
          go_wp2_with fail
          rw [rounds_succ]
          have n1a : 4 * (i : Int) + 1 < 32 := by omega
          have n1b : 0 ≤ 4 * (i : Int) + 1 := by omega
          go_wp2_with ((with_reducible show wpList _ _ _ (⟨none, Op.store _ _ _, _, _, _, _⟩ :: _) _ _); refine Hid.out ?_)
          refine hide ?_
          refine law_storeByte rfl _ _ _ rfl Tryd.underlying5 sizeU8z db (4 * i + 1) (wI (x >>> 16) % 256) rfl rfl (by omega) (by omega) ((outK S i).set (4 * i + 0) (byteW (x >>> 24))) _ hd (by simp only [List.length_set, hol]; omega) ?_
          intro w9 hd' hw9
          simp only [Act.put]
          have hBj := below_grown hBi hw9 (by have := zlt hd; have := hBi.size; rw [HDB.out]; exact this) (by intro k e; cases e; exact Nat.le_refl _)
          rw [ofmod] at hd'
          clear hd hBi hw9 n1a n1b
          have hd := hd'.out
          have hBi := hBj
          clear hd' hBj
          go_wp2_with fail
          rw [rounds_succ]
          have n2a : 4 * (i : Int) + 2 < 32 := by omega
          have n2b : 0 ≤ 4 * (i : Int) + 2 := by omega
          go_wp2_with ((with_reducible show wpList _ _ _ (⟨none, Op.store _ _ _, _, _, _, _⟩ :: _) _ _); refine Hid.out ?_)
          refine hide ?_
          refine law_storeByte rfl _ _ _ rfl Tryd.underlying5 sizeU8z db (4 * i + 2) (wI (x >>> 8) % 256) rfl rfl (by omega) (by omega) (((outK S i).set (4 * i + 0) (byteW (x >>> 24))).set (4 * i + 1) (byteW (x >>> 16))) _ hd (by simp only [List.length_set, hol]; omega) ?_
          intro w9 hd' hw9
          simp only [Act.put]
          have hBj := below_grown hBi hw9 (by have := zlt hd; have := hBi.size; rw [HDB.out]; exact this) (by intro k e; cases e; exact Nat.le_refl _)
          rw [ofmod] at hd'
          clear hd hBi hw9 n2a n2b
          have hd := hd'.out
          have hBi := hBj
          clear hd' hBj
          go_wp2_with fail
          rw [rounds_succ]
          have n3a : 4 * (i : Int) + 3 < 32 := by omega
          have n3b : 0 ≤ 4 * (i : Int) + 3 := by omega
          go_wp2_with ((with_reducible show wpList _ _ _ (⟨none, Op.store _ _ _, _, _, _, _⟩ :: _) _ _); refine Hid.out ?_)
          refine hide ?_
          refine law_storeByte rfl _ _ _ rfl Tryd.underlying5 sizeU8z db (4 * i + 3) (wI (x >>> 0) % 256) rfl rfl (by omega) (by omega) ((((outK S i).set (4 * i + 0) (byteW (x >>> 24))).set (4 * i + 1) (byteW (x >>> 16))).set (4 * i + 2) (byteW (x >>> 8))) _ hd (by simp only [List.length_set, hol]; omega) ?_
          intro w9 hd' hw9
          simp only [Act.put]
          have hBj := below_grown hBi hw9 (by have := zlt hd; have := hBi.size; rw [HDB.out]; exact this) (by intro k e; cases e; exact Nat.le_refl _)
          rw [ofmod] at hd'
          clear hd hBi hw9 n3a n3b
          have hd := hd'.out
          have hBi := hBj
          clear hd' hBj
          go_wp2_with fail
          rw [HOK.out] at hd
          rw [rounds_succ]
          go_wp2
          go_roundg (8 - (i + 1))
          case measure => omega
          case rel => exact ⟨i + 1, by omega, rfl, by simp, hd, hBi⟩
        · obtain rfl : i = 8 := by omega
          have hd' : wr.heap[db]? = some (.cells (dg (outB S)) 28 (0, 0)) := hd
          clear hd hlt hi
          have hol : (outB S).length = 32 := rfl
          go_wp2_with (first
            | ((with_reducible show wpList _ _ _ (⟨some 71, _, _, _, _, _⟩ :: _) _ _); refine wpList_load_row rfl _ _ rfl db rfl _ (dg (outB S)) _ _ hd' Tryd.underlying28 rfl (by rw [dg_size, hol]; exact zsizeDig) ?_)
            | ((with_reducible show wpList _ _ _ (⟨none, Op.store _ _ _, _, _, _, _⟩ :: _) _ _); refine law_store rfl _ _ _ rfl db (dg (outB S)) rfl rfl _ (dg (outB S)) hd' (by rw [dg_size, hol]; exact zsizeDig) rfl (dg_one _) ?_; intro w9 hd9 hw9))
          refine bodyPost_ret (results_cell_row rfl _ _ db _ _ _ _ rfl hd9.out Tryd.underlying28 rfl (by rw [dg_size, hol]; exact zsizeDig)) rfl ⟨by rw [HSE.out], ?_⟩
          have := below_grown hBi hw9 (by have := hBi.size; rw [HDB.out]; exact this) (by intro k e; cases e; exact Nat.le_refl _)
          rw [HDB.out] at this
          exact this
end Go.Proofs.YtpkgmoiffegbfaaDoor
