/-
  A file's bytes: clean, equal, streamed, over memory.
  No condition beyond those that each theorem names.
-/
import Derived.Test.YthpjoogmmjikmaaGreatDoorO10
set_option linter.unusedSimpArgs false
open Go.Sx
set_option linter.unusedVariables false
set_option linter.unusedSimpArgs false
namespace Go.Proofs.YthpjoogmmjikmaaGreatDoor
def cleanN (b : Byts) (n : Nat) : Byts := ((List.range n).map (sector b)).flatten
def clean (b : Byts) : Byts := cleanN b (nsec b)
theorem cleanN_succ (b : Byts) (n : Nat) : cleanN b (n + 1) = cleanN b n ++ sector b n := by simp [cleanN, List.range_succ]
theorem cleanN_length (b : Byts) : ∀ n, (cleanN b n).length = n * 64
  | 0 => rfl
  | n + 1 => by rw [cleanN_succ, List.length_append, cleanN_length b n, sector_length]; omega
def streamN : Nat → Byts → Byts
  | 0, _ => []
  | m + 1, b => if b.length < 64 then [] else
    let n := if 62 < (b.getD 0 0).toNat then 0 else (b.getD 0 0).toNat
    (b.drop 2).take n ++ (if n < 62 then [] else streamN m (b.drop 64))
section
variable {hk : Hook} {A B : Nat → Prop} {I : List Nat} {w0 w w' : AW} {D S : Nat} {i i' : DI} {d d' : Dsk} {k k' : Nat} {L L' : Obs} {K : AV → AW → Prop} {nm bs : Byts} {es : List Int} {bv ev : AV} {br : Bool} {ef : Nat} {eo : Ob}
set_option maxRecDepth 20000 in
theorem s80 {b : Byts} (hh : HK hk) (pv : Pv A w) (h : (rL rU).rd B w [bv] b) (hl : b.length ≤ 2 ^ 20) (hK : ∀ v' w', Fr w.size w w' → Ga rU A w w' v' (clean b) → K v' w') : Cl Tryz.prog hk 80 [bv] w K := by
  apply in80 (hh.no _ _ _ (by decide) (by decide))
  unfold F80
  have hns : nsec b ≤ 2 ^ 20 := by unfold nsec; omega
  refine pv.st.new' fun b1 w2 st2 x2 => ?_
  refine s87o (fr := 0) hh st2 h.ok1 fun c1 c2 w4 st4 x4 => ?_
  intro R0 hst hpend hY
  obtain ⟨st5, x5⟩ := st4.pushObj (o := .deferred) (fun _ _ _ _ h => by cases h)
  obtain ⟨st6, x6⟩ := st5.pushObj (o := LoopA.ob R0) ob_no
  rw [show (w4.push .deferred).size = w4.size + 1 from rfl] at st6 x6
  show Cl Tryz.prog hk 128 [.yield (w4.size + 1), .ptr c1 0, .ptr c2 0] _ _
  let LM : AO → AV → Obs := fun o v => [(w4.size + 1, .obj o), (w4.size, .obj .deferred), (c1, .row [.int .i64 ((0 : Nat) : Int)]), (c2, .row [bv]), (b1, .row [v])]
  have st6 : Ow A [] w ((w4.push .deferred).push (LoopA.ob R0)) (LM (LoopA.ob R0) .nilslice) := st6
  have hc1 : Box ((w4.push .deferred).push (LoopA.ob R0)) c1 [.int .i64 ((0 : Nat) : Int)] := (st6.box (c1, _) (nth_mem (i := 2) rfl) rfl).1
  refine s128 (fr := 0) (b := b) (bv := bv) hh (fun j wx => ∃ v, Ow A [] w wx (LM (LoopA.ob R0) v) ∧ Ga rU (fz A (ids (LM (LoopA.ob R0) .nilslice))) w wx v (cleanN b j) ∧ j ≤ nsec b)
    (fun j wx ⟨v, st, _⟩ => ⟨st.mem, st.P0.pos, (st.box (c2, _) (nth_mem (i := 3) rfl) rfl).1, (st.arg pv.mem h).xa ⟨fun c f all _ _ e => ⟨trivial, trivial, e⟩⟩⟩) hc1 ⟨.nilslice, st6, Ga.nil, Nat.zero_le _⟩ (by omega) (by decide) ?_ ?_
  · rintro j wj wj' xv ⟨v, st, hga, hj⟩ hlt hf hg
    have hjn : j < nsec b := by unfold nsec; omega
    obtain ⟨st', xf⟩ := st.call hf
    have hga' := Ga.x' hga xf st
    have hrd := rd_any (U := ids (LM (LoopA.ob R0) v)) (hg.rd (by decide)) fun c hc => st.ids_lt hc
    have hl' : loopAt wj' (w4.size + 1) = some R0 := loop_of (st'.box (w4.size + 1, .obj (LoopA.ob R0)) (nth_mem (i := 0) rfl) rfl).1.1
    refine hY _ _ wj' _ hl' ⟨hl', fun wb hwb => ?_⟩
    subst hwb
    obtain ⟨stb, xb⟩ := st'.setObj 0 (o2 := busyOb R0) rfl busy_no
    have stb : Ow A [] w _ (LM (busyOb R0) v) := stb
    have hgb := Ga.x' hga' xb st'
    refine onM_s (v := v) (stb.ld 4 rfl rfl) ?_
    have hlen := cleanN_length b j
    refine Ow.appSrc (r := rU) (l' := sector b j) stb hgb (Rs.src (hrd.x xb).rsB) (Chk.bytes.2 rfl) (by decide) (fun c hc => pv.new c (by have := stb.size; omega)) (by rw [hlen, sector_length]; omega) (by rw [hlen, sector_length]; omega) fun v' w13 st13 x13 hg13 => ?_
    refine gd_t (hg13.rd (by decide)).ok1 (st13.put 4 rfl (by simp) fun w14 st14 x14 => ?_)
    have hg14 := Ga.x' hg13 x14 st13
    refine ⟨{ R0 with st := .busy }, loop_of (st14.box (w4.size + 1, .obj (busyOb R0)) (nth_mem (i := 0) rfl) rfl).1.1, .inl ⟨rfl, ?_⟩⟩
    rw [ready_eq hst hpend]
    obtain ⟨st15, x15⟩ := st14.setObj 0 (o2 := LoopA.ob R0) rfl ob_no
    exact ⟨v', st15, by rw [cleanN_succ]; exact Ga.x' hg14 x15 st14, by omega⟩
  · rintro j wx ⟨v, st, hga, hj⟩ hge hor
    obtain rfl : j = nsec b := by unfold nsec at hj ⊢; omega
    refine ⟨R0, loop_of (st.box (w4.size + 1, .obj (LoopA.ob R0)) (nth_mem (i := 0) rfl) rfl).1.1, by rw [hst]; simp, ?_⟩
    rw [hpend]
    obtain ⟨st7, x7⟩ := st.setObj 0 (o2 := LoopA.ob { R0 with st := .exhausted, pending := none }) rfl ob_no
    refine onM_s (v := v) (st7.ld 4 rfl rfl) ?_
    have hdd := (st7.box (w4.size, .obj .deferred) (nth_mem (i := 1) rfl) rfl).1.1
    obtain ⟨st8, x8⟩ := st7.setObj 1 (o2 := .gone) rfl (fun _ _ _ _ h => by cases h)
    exact onM_s (take_one hdd) (hK _ _ st8.fr (Ga.x' (Ga.x' hga x7 st) x8 st7).out)
theorem s79 {v1 v2 : AV} {a b : Byts} (hh : HK hk) (h1 : RsB w v1 a) (h2 : RsB w v2 b) (hl : a.length < 2 ^ 60) (hl2 : b.length < 2 ^ 60) (hK : K (.bool (a == b)) w) : Cl Tryz.prog hk 79 [v1, v2] w K := by
  apply in79 (hh.no _ _ _ (by decide) (by decide))
  unfold F79
  refine ⟨_, h1.len, _, h2.len, ifT_nd (fun hne => ?_) fun he => ⟨_, h1.len, ?_⟩⟩
  · have : (a == b) = false := by
      rw [beq_eq_false_iff_ne]; rintro rfl; exact hne rfl
    rw [this] at hK; exact hK
  · have he : a.length = b.length := by omega
    refine loopP_ind (fun m l w7 => ∃ j : Nat, j ≤ a.length ∧ m = a.length - j ∧ l = [.int .i64 j] ∧ w7 = w ∧ a.take j = b.take j) ?_ ⟨0, Nat.zero_le _, rfl, rfl, rfl, rfl⟩
    rintro m l w7 ⟨j, hj, rfl, rfl, rfl, heq⟩ R ih
    refine ⟨_, rfl, fun _ => ifT_d (fun hc => ?_) fun hc => ?_⟩
    · have hja : j < a.length := by omega
      have hjb : j < b.length := by omega
      have at1 : ∀ {v : AV} {s : Byts} {K : Nat → Nat → Prop}, RsB w7 v s → ∀ hjs : j < s.length, (∀ b o, ld w7 b o = some (.int .u8 (s[j].toNat : Int)) → K b o) → atP (idxS 1 v (.int .i64 (j : Int))) K := fun {v s K} h hjs hK => by
        refine Rs.at (w := w7) (sz := 1) (n := s.length) h (i := (j : Int)) (by omega) (by omega) fun b o hf _ => hK b o ?_
        have := hf 0 (by decide)
        rw [Nat.add_zero] at this
        rw [this]; simp [cellsOfBytes, hjs]
      refine at1 h1 hja fun b1 o1 g1 => ⟨_, g1, at1 h2 hjb fun b2 o2 g2 => ⟨_, g2, ifT_nd (fun hne => ?_) fun heq2 => ?_⟩⟩
      · have : (a == b) = false := by
          rw [beq_eq_false_iff_ne]; rintro rfl; exact hne rfl
        rw [this] at hK; exact hK
      · have e : a[j] = b[j] := UInt8.toNat_inj.1 (by omega)
        refine ih (a.length - (j + 1)) (by omega) _ _ ⟨j + 1, by omega, rfl, by rw [wi_eq (by omega) (by omega)]; rfl, rfl, ?_⟩
        rw [← List.take_append_getElem hja, ← List.take_append_getElem hjb, heq, e]
    · have e : a = b := by
        have h1 : a.take j = a := List.take_of_length_le (by omega)
        have h2 : b.take j = b := List.take_of_length_le (by omega)
        rw [← h1, ← h2]; exact heq
      have : (a == b) = true := by rw [e]; simp
      rw [this] at hK; exact hK
end
end Go.Proofs.YthpjoogmmjikmaaGreatDoor
