/-
  Bytes of frames and sectors, over memory.
  No condition beyond those that each theorem names.
-/
import Derived.Test.YthpjoogmmjikmaaGreatDoorU10
set_option linter.unusedSimpArgs false
open Go.Sx
set_option linter.unusedVariables false
set_option linter.unusedSimpArgs false
namespace Go.Proofs.YthpjoogmmjikmaaGreatDoor
theorem appendA_eq {w : AW} {s : AV} {n : Nat} (h : n < 2 ^ 40) : appendA Tryz.prog w 30 (some 3) s (.int .i64 (n : Int)) = appS 1 1 w s (.str (List.replicate n 0)) := by
  have e1 : Sx.elemOf Tryz.prog 30 = some 5 := by kernel_rfl
  have e2 : szOf Tryz.prog 5 = some 1 := by kernel_rfl
  have e3 : bytesOf Tryz.prog 5 = some 1 := by kernel_rfl
  have e4 : zeroOf Tryz.prog 5 = some (.int .u8 0) := by kernel_rfl
  have hr : repl n (AV.cells (.int .u8 0)) = cellsOfBytes (List.replicate n 0) := by
    show repl n [.int .u8 0] = _
    rw [repl_eq]; simp [cellsOfBytes]
  have e5 : appSrc Tryz.prog w 5 1 1 (some 3) (.int .i64 (n : Int)) = some (n, cellsOfBytes (List.replicate n 0)) := by
    have hu : Tryz.prog.underlying 3 = some (.int .i64) := by kernel_rfl
    simp only [appSrc, hu, Option.bind_some]
    show Sx.madeCells Tryz.prog 5 1 (.int .i64 (Int.ofNat n)) = _
    unfold Sx.madeCells
    simp only [e4, Option.bind_some]
    have e6 : Nat.blt n (2 ^ 40) = true := by rw [Nat.blt_eq]; exact h
    have e7 : Nat.blt (n * 1) Sx.room = true := by rw [Nat.blt_eq]; unfold Sx.room; omega
    rw [e6, e7, hr]; rfl
  unfold appendA appS
  simp only [e1, e2, e3, e4, Option.bind_some, e5]
  have e8 : srcCells w 1 (.str (List.replicate n 0)) = some (n, cellsOfBytes (List.replicate n 0)) := by
    simp [srcCells, guardO]
  rw [e8]
  simp only [Option.bind_some]
  have e9 : okSrc (.int .i64 (n : Int)) (cellsOfBytes (List.replicate n 0)) = okSrc (.str (List.replicate n 0)) (cellsOfBytes (List.replicate n 0)) := rfl
  rw [e9]
  cases s <;> rfl
theorem Bhd.str (w : AW) (s : Byts) : Bhd w 1 s.length (.str s) (cellsOfBytes s) := ⟨by simp [srcCells, guardO], by rw [cellsOfBytes_length]; omega, ok_bytes _⟩
theorem boxGa {A : Nat → Prop} {w0 w : AW} {b n : Nat} {ex : Option Nat} {s : Byts} (hb : Box w b (cellsOfBytes s)) (hl : s.length = n) (h0 : w0.size ≤ b) (hA : A b) (hz : b ≠ 0) (hex : ex = none ∨ ex = some 1 := by simp) : Ga rU A w0 w (.slice b 0 n n ex) s := by
  refine ⟨fun c h => by cases h; exact hA, _, .inr ⟨b, b, n, ex, b, false, rfl, ?_, hex, ⟨h0, hA⟩, hz, hb, AW.root?_iff.2 ⟨_, hb, rfl⟩⟩, Chk.bytes.2 rfl⟩
  show n * 1 = _
  rw [cellsOfBytes_length]; omega
def be4 (n : Nat) : Byts := [UInt8.ofNat (n / 2 ^ 24), UInt8.ofNat (n / 2 ^ 16), UInt8.ofNat (n / 2 ^ 8), UInt8.ofNat n]
def frame (b : Byts) : Byts := be4 b.length ++ b
theorem frame_length (b : Byts) : (frame b).length = 4 + b.length := by simp [frame, be4]; omega
def sector (b : Byts) (i : Nat) : Byts := UInt8.ofNat ((b.drop (i * 62)).take 62).length :: 0 :: ((b.drop (i * 62)).take 62 ++ List.replicate (62 - ((b.drop (i * 62)).take 62).length) 0)
theorem sector_length (b : Byts) (i : Nat) : (sector b i).length = 64 := by simp [sector]; omega
section
variable {hk : Hook} {A B : Nat → Prop} {I : List Nat} {w0 w w' : AW} {D : Nat} {i i' : DI} {d d' : Dsk} {k k' : Nat} {L L' : Obs} {K : AV → AW → Prop}
theorem shr_u64 {n k : Nat} (hk : k ≤ 24) : shiftA .shr .u64 (n : Int) (k : Int) = some (.int .u64 ((n / 2 ^ k : Nat) : Int)) := by
  unfold shiftA
  rw [if_neg (by omega)]
  have : min ((k : Int).toNat) (IntKind.bits .u64) = k := by
    show min (k : Int).toNat 64 = k
    omega
  simp only [this]
  congr 2
  rw [Int.fdiv_eq_ediv_of_nonneg _ (by exact_mod_cast Nat.zero_le _)]
  push_cast; rfl
theorem u8_cell (n : Nat) : AV.int .u8 (IntKind.wrap .u8 (n : Int)) = .int .u8 ((UInt8.ofNat n).toNat : Int) := by
  congr 1
set_option maxRecDepth 20000 in
theorem s153 {n : Nat} (hh : HK hk) (pv : Pv A w) (hK : ∀ b w', Fr w.size w w' → w.size ≤ b → Box w' b (cellsOfBytes (be4 n)) → K (.slice b 0 4 4 none) w') : Cl Tryz.prog hk 153 [.nilslice, .int .u64 (n : Int), .int .i64 4] w K := by
  apply in153 (hh.no _ _ _ (by decide) (by decide))
  unfold F153
  refine ⟨0, rfl, 0, rfl, onM_s (v := 0) rfl (onM_s (v := 4) rfl (gd_t rfl (pv.st.new' fun b7 w8 st8 x8 => onE_s (v := .int .i64 0) (w := w8) (by kernel_rfl) ?_)))⟩
  have st8 : Ow A [] w w8 [(b7, .row [.int .u8 0, .int .u8 0, .int .u8 0, .int .u8 0])] := st8
  have hb7 : w.size ≤ b7 := by
    rcases (st8.box _ List.mem_cons_self rfl).2.1 with h | h
    · exact h
    · cases h
  intro R hR
  have step : ∀ (j : Nat) (cs : List AV) (w13 : AW), j < 4 → cs.length = 4 → Ow A [] w w13 [(b7, .row cs)] → (∀ w', Ow A [] w w' [(b7, .row (listPut cs j [.int .u8 ((UInt8.ofNat (n / 2 ^ (8 * (3 - j)))).toNat : Int)]))] → R [.slice b7 0 (j + 1) 4 none, .int .i64 ((j + 1 : Nat) : Int)] w') → R [.slice b7 0 j 4 none, .int .i64 (j : Int)] w13 := by
    intro j cs w13 hj hl st hn
    refine hR _ _ ⟨_, _, rfl, fun _ => ifT_d (fun _ => ?_) fun hc => absurd hc (by omega)⟩
    unfold be
    have e : wi (8 * wi (wi (4 - 1) - (j : Int))) = ((8 * (3 - j) : Nat) : Int) := by
      rw [wi_eq (x := 4 - 1) (by omega) (by omega), wi_eq (x := _ - _) (by omega) (by omega), wi_eq (by omega) (by omega)]; omega
    rw [e]
    refine ⟨_, shr_u64 (by omega), ?_⟩
    rw [u8_cell]
    refine st.new' fun b18 w19 st19 x19 => ?_
    have hb : Box w19 b18 [.int .u8 ((UInt8.ofNat (n / 2 ^ (8 * (3 - j)))).toNat : Int)] := (st19.box _ List.mem_cons_self rfl).1
    refine st19.appIn 1 (m := 1) rfl (Rs.src (hb.rs rfl)) (by omega) hl fun w21 st21 x21 => ?_
    have := hn w21 (st21.drop).1
    rw [wi_eq (by omega) (by omega)]
    exact this
  refine step 0 _ _ (by decide) rfl st8 fun w1 st1 => step 1 _ _ (by decide) rfl st1 fun w2 st2 => step 2 _ _ (by decide) rfl st2 fun w3 st3 => step 3 _ _ (by decide) rfl st3 fun w4 st4 => ?_
  refine hR _ _ ⟨_, _, rfl, fun _ => ifT_d (fun hc => absurd hc (by decide)) fun hc => ?_⟩
  have hb : Box w4 b7 _ := (st4.box _ List.mem_cons_self rfl).1
  refine hK b7 w4 st4.fr hb7 ?_
  simpa [be4, cellsOfBytes, listPut] using hb
theorem s85 {v : AV} {s : Byts} (hh : HK hk) (pv : Pv A w) (h : RsB w v s) (hs : s.length ≤ 65536) (hK : ∀ v' w', Fr w.size w w' → Ga rU A w w' v' (frame s) → K (.tup [v', .int .i64 0]) w') : Cl Tryz.prog hk 85 [v] w K := by
  apply in85 (hh.no _ _ _ (by decide) (by decide))
  unfold F85
  refine ⟨_, h.len, ifT_d (fun hc => absurd hc (by omega)) fun _ => ⟨_, h.len, ?_⟩⟩
  have e : IntKind.wrap .u32 ((s.length : Nat) : Int) = ((s.length : Nat) : Int) := by
    show ((s.length : Nat) : Int) % 4294967296 = _
    omega
  rw [e]
  apply in126 (hh.no _ _ _ (by decide) (by decide))
  unfold F126
  have e : IntKind.wrap .u64 ((s.length : Nat) : Int) = ((s.length : Nat) : Int) := by
    show ((s.length : Nat) : Int) % 18446744073709551616 = _
    omega
  rw [e]
  refine s153 hh pv fun b w4 f4 hb4 bx4 => ?_
  have hpos := pv.pos
  have hg : Ga rU (fz A []) w w4 (.slice b 0 4 4 none) (be4 s.length) := (boxGa bx4 rfl hb4 (pv.new _ hb4) (by omega)).inn
  have st4 := (pv.st.call f4).1
  have h4 : Rs w4 1 s.length v (cellsOfBytes s) := Rs.fr h pv.mem f4 (Nat.le_refl _)
  refine Ow.appSrc (r := rU) (l' := s) st4 hg h4.src (Chk.bytes.2 rfl) (by decide) (fun c hc => pv.new c (by have := f4.size; omega)) (by simp [be4]; omega) (by simp [be4]; omega) fun v' w6 st6 x6 hg6 => ?_
  exact hK v' w6 st6.fr hg6.out
set_option maxRecDepth 20000 in
theorem s127 {n : Nat} (hh : HK hk) (pv : Pv A w) (hn : 0 < n) (h40 : n < 2 ^ 40) (hK : ∀ w', Ow A [] w w' [(w.size, .row (cellsOfBytes (List.replicate n 0)))] → K (.slice w.size 0 0 n (some 1)) w') : Cl Tryz.prog hk 127 [.nilslice, .int .i64 (n : Int)] w K := by
  apply in127 (hh.no _ _ _ (by decide) (by decide))
  unfold F127
  refine ifT_d (fun hc => absurd hc (by omega)) fun _ => ⟨0, by kernel_rfl, 0, rfl, ?_⟩
  have e : wi ((n : Int) - wi (0 - 0)) = (n : Int) := by
    rw [show wi (0 - 0) = 0 from by decide, wi_eq (by omega) (by omega)]; omega
  rw [e]
  refine ifT_d (fun _ => ?_) fun hc => absurd hc (by omega)
  refine ⟨0, by kernel_rfl, onM_s (v := .nilslice) rfl ?_⟩
  rw [appendA_eq h40]
  have hx := Bhd.str w (List.replicate n 0)
  rw [List.length_replicate] at hx
  have f1 : Fr w.size w (newCells w (cellsOfBytes (List.replicate n 0))) := Fr.push pv.mem fun cs' f own d e => by cases e; exact Nat.le_refl _
  have b1 : Box (newCells w (cellsOfBytes (List.replicate n 0))) w.size (cellsOfBytes (List.replicate n 0)) := by simp [Box, newCells, cellsAO]
  refine onE_s (v := .slice w.size 0 n n (some 1)) (w := newCells w (cellsOfBytes (List.replicate n 0))) ?_ ⟨0, rfl, onM_s (v := .slice w.size 0 0 n (some 1)) ?_ (hK _ (pv.st.push (p := (w.size, .row _)) rfl f1 (Nat.le_refl _) b1).1)⟩
  · have e1 : Nat.ble (n * 1) Sx.room = true := by rw [Nat.ble_eq]; unfold Sx.room; omega
    have e2 : Nat.blt n (2 ^ 62) = true := by rw [Nat.blt_eq]; omega
    simp only [appS, hx.read, Option.bind_some, beq_ff (show n ≠ 0 by omega), cond_false, hx.ok, guardO, e1, e2, Bool.and_self, cond_true]
    rfl
  · have e1 : okB 0 0 n n = true := by simp [okB]
    simp only [slS, boundA]
    show guardO (okB 0 0 n n && okEx (some 1) 1 && _) _ = _
    rw [e1]; rfl
end
end Go.Proofs.YthpjoogmmjikmaaGreatDoor
