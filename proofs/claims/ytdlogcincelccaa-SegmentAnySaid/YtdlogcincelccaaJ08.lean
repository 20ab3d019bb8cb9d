/-
  What a law of chapter 7 asks of the disk besides, over memory.
  No condition beyond those that each theorem names.
-/
import Derived.Test.YtdlogcincelccaaI08
import Derived.Test.YtdlogcincelccaaSxr
set_option linter.unusedSimpArgs false
open Go.Sx
set_option linter.unusedVariables false
namespace Go.Proofs.Ytdlogcincelccaa
theorem repl_eq (n : Nat) (z : AV) : repl n [z] = List.replicate n z := by
  induction n with
  | zero => rfl
  | succ n ih => show [z] ++ repl n [z] = _; rw [ih]; rfl
def fillB (b : UInt8) : Byts := List.replicate 64 b
theorem boxB {w : AW} {b n : Nat} {s : Byts} {ex : Option Nat} (h : Box w b (cellsOfBytes s)) (hl : s.length = n) (hx : ex = none ∨ ex = some 1 := by simp) : RsB w (.slice b 0 n n ex) s := by
  subst hl
  exact BS.rs (n0 := 0) (.inr ⟨b, ex, rfl, hx, Nat.zero_le _, h⟩)
section
variable {hk : Hook} {A B : Nat → Prop} {I : List Nat} {w0 w w' : AW} {D : Nat} {i i' : DI} {d d' : Dsk} {k k' : Nat} {L L' : Obs} {K : AV → AW → Prop}
theorem s20 {v v' : AV} {s s' : Byts} (hh : HK hk) (h : RsB w v s) (h' : RsB w v' s') (hK : K (.bool (s == s')) w) : Cl Try.prog hk 20 [v, v'] w K := by
  apply in20 (hh.no _ _ _ (by decide) (by decide))
  exact ⟨_, h.str, _, h'.str, hK⟩
theorem s26o {a s : Byts} {f : Int} (hh : HK hk) (h : Dk A I w0 w D i d k L) (hg : nget d.now.names a = some f) (hd : d.down = false) (hs : d.now.files f = [s]) (hK : ∀ b w', Fr w.size w w' → w.size ≤ b → Box w' b (cellsOfBytes s) → K (.tup [.slice b 0 64 64 (some 1), .int .i64 0]) w') : Cl Try.prog hk 26 [.ptr D 0, .str a] w K := by
  apply in26 (hh.no _ _ _ (by decide) (by decide))
  unfold F26
  refine s32 hh h ⟨_, _, rfl, ?_⟩
  have hm := h.ow.mem
  rw [hg]
  refine ifT_nd (fun h => absurd rfl h) fun _ => ?_
  simp only [Option.getD_some, onP]
  refine ⟨d.down, h.ow.ld 0 rfl rfl, ?_⟩
  rw [hd]
  obtain ⟨v, hlk, hsl⟩ := h.f2.look f
  refine ifT_f (onM_s (h.ow.ld 0 rfl rfl) (onM_s ((h.ow.look 4 rfl (h.f2.like _)).trans hlk) ⟨_, hsl.len', ?_⟩))
  have hx64 : s.length = 64 := (h.V.now f).2 s (by rw [hs]; simp)
  rw [hs] at hsl ⊢
  have pv : Pv (fz A (dkU D i L)) w := h.ow.P
  have hpos := pv.pos
  refine loopP_ind (fun m lv w16 => (m = 1 ∧ lv = [.nilslice, .int .i64 0] ∧ w16 = w) ∨ (m = 0 ∧ ∃ b, lv = [.slice b 0 64 64 (some 1), .int .i64 1] ∧ Fr w.size w w16 ∧ w.size ≤ b ∧ Box w16 b (cellsOfBytes s))) ?_ (.inl ⟨rfl, rfl, rfl⟩)
  rintro m lv w16 (⟨rfl, rfl, rfl⟩ | ⟨rfl, b, rfl, f16, hb, hbx⟩) R ih
  · refine ⟨_, _, rfl, fun _ => ifT_d (fun hc => ?_) fun hc => absurd (by simp) hc⟩
    refine hsl.at (i := 0) (by simp) fun bb oo cs hcs _ hN => ?_
    obtain ⟨hcs, _⟩ := hcs
    have hcs : cs = cellsOfBytes s := hcs
    subst hcs
    refine onM_s hN (pv.st.new' fun b22 w23 so23 x23 => ?_)
    simp only [onA]
    have hcl : (cellsOfBytes s).length = 64 := by rw [cellsOfBytes_length, hx64]
    have hz64 : z64.length = 64 := by rw [z64_eq, cellsOfBytes_length]; simp [zsec]
    refine gd_t (ok_bytes _) (gd_t (by rw [hcl]; rfl) (so23.put 0 rfl (by rw [hcl, hz64]; omega) fun w25 so25 x25 => ?_))
    rw [listPut_all (by rw [hz64, hcl])] at so25
    have hb25 : Box w25 b22 (cellsOfBytes s) := (so25.box (b22, .row (cellsOfBytes s)) (by simp [stN]) rfl).1
    refine onM_s (v := .slice b22 (0 + 0 * 1) (64 - 0) (64 - 0) none) rfl ?_
    have hrx : Rs w25 1 64 (.slice b22 (0 + 0 * 1) (64 - 0) (64 - 0) none) (cellsOfBytes s) := .inr ⟨b22, 0, 64, none, _, rfl, hb25.cells, by omega, by rw [List.drop_zero, List.take_of_length_le (by omega)]⟩
    have f25 := so25.fr
    have f26 : Fr w25.size w25 (newCells w25 (cellsOfBytes s)) := Fr.push f25.mem fun cs' f own d e => by cases e; exact Nat.le_refl _
    refine onE_s (v := .slice w25.size 0 64 64 (some 1)) (w := newCells w25 (cellsOfBytes s)) (by simp only [appS, hrx.read, Option.bind_some]; rfl) (ih 0 (by omega) _ _ (.inr ⟨rfl, w25.size, by rw [show wi (0 + 1) = 1 from by decide], f25.trans f26 f25.size, f25.size, by simp [Box, newCells, cellsAO]⟩))
  · exact ⟨_, _, rfl, fun _ => ifT_d (fun hc => absurd hc (by simp)) fun hc => hK b w16 f16 hb hbx⟩
end
end Go.Proofs.Ytdlogcincelccaa
