/-
  Crash, over memory.
  No condition beyond those that each theorem names.
-/
import Derived.Test.YtbjeebgdjlemjaaO07
import Derived.Test.YtbjeebgdjlemjaaSxs
set_option linter.unusedSimpArgs false
open Go.Sx
set_option linter.unusedVariables false
namespace Go.Proofs.Ytbjeebgdjlemjaa

/-- A slice of bools. -/
def RsT (w : AW) (v : AV) (l : List Bool) : Prop := Rs w 1 l.length v (l.map AV.bool)

section
variable {hk : Hook} {X : List Nat} {w : AW} {D n1 f1 n2 f2 : Nat} {sv : AV} {d : Dsk} {k : Nat} {K : AV → AW → Prop}

theorem push_map {n : Nat} {es : List (AV × AV)} {cl : Nat} (hm : Mem w) (hg : w.get n = some (.map es cl)) : Fr w.size w (w.push (.map es 0)) ∧ (w.push (.map es 0)).get w.size = some (.map es 0) ∧ (w.push (.map es 0)).size = w.size + 1 :=
  ⟨Fr.push hm fun cs f own d e => (by cases e), by simp, by simp⟩
set_option maxRecDepth 100000 in
theorem s70 {n : Nat} {ns : List (Byts × Int)} (hh : HK hk) (hm : Mem w) (h : NMp w n ns) (hK : ∀ w', Fr w.size w w' → NMp w' w.size ns → w'.size = w.size + 1 → K (.map w.size) w') : Cl Try.prog hk 70 [.map n] w K := by
  apply in70 (hh.no _ _ _ (by decide) (by decide))
  unfold F70
  obtain ⟨cl, hg⟩ := h
  obtain ⟨a1, a2, a3⟩ := push_map hm hg
  refine ⟨false, by kernel_rfl, ifT_f (Cl_ext (hh.no _ _ _ (by decide) (by decide)) Try.func87 rfl (ext_clone hg) (onM_s (v := .map w.size) (by kernel_rfl) (hK _ a1 ⟨0, a2⟩ a3)))⟩
set_option maxRecDepth 100000 in
theorem s71 {f : Nat} {F : Int → List Byts} (hh : HK hk) (hm : Mem w) (h : FMp w f F) (hK : ∀ w', Fr w.size w w' → FMp w' w.size F → w'.size = w.size + 1 → K (.map w.size) w') : Cl Try.prog hk 71 [.map f] w K := by
  apply in71 (hh.no _ _ _ (by decide) (by decide))
  unfold F71
  obtain ⟨es, cl, hg, h2, h3⟩ := h
  obtain ⟨a1, a2, a3⟩ := push_map hm hg
  refine ⟨false, by kernel_rfl, ifT_f (Cl_ext (hh.no _ _ _ (by decide) (by decide)) Try.func87 rfl (ext_clone hg) (onM_s (v := .map w.size) (by kernel_rfl) (hK _ a1 ⟨es, 0, a2, h2, fun k => ?_⟩ a3)))⟩
  have := h3 k
  cases hl : lookM (.int .i64 k) es with
  | none => rw [hl] at this; exact this
  | some v => rw [hl] at this; exact SL.mono (fun b bs hb => a1.cells hm hb (Nat.le_refl _)) this
/-- copied. -/
theorem s50 {n f : Nat} {s : FS} (hh : HK hk) (hm : Mem w) (hw : 0 < w.size) (hN : NMp w n s.names) (hF : FMp w f s.files) (hK : ∀ n' f' w', Fr w.size w w' → w.size ≤ n' → w.size ≤ f' → n' ≠ f' → n' < w'.size → f' < w'.size → NMp w' n' s.names → FMp w' f' s.files → K (.agg [.map n', .map f']) w') : Cl Try.prog hk 50 [.agg [.map n, .map f]] w K := by
  apply in50 (hh.no _ _ _ (by decide) (by decide))
  unfold F50
  have hnl : n < w.size := by obtain ⟨_, _, h⟩ := hN.isMap; exact hm.lt _ _ h
  have hfl : f < w.size := by obtain ⟨_, _, h⟩ := hF.isMap; exact hm.lt _ _ h
  refine gd_t rfl (new_of hm fun w3 f3 b3 z3 => new_of f3.mem fun w5 f5 b5 z5 => ?_)
  have f05 := f3.trans f5 (by omega)
  have b3' := b3.fr f5 (by omega)
  refine onM_s (v := .map n) (by rw [b3'.ld]; rfl) (onM_s (v := .map f) (by rw [b3'.ld]; rfl) ?_)
  refine s70 hh f05.mem (hN.fr (f05.old _ hnl)) fun w9 f9 hN9 z9 => ⟨by rw [(b3'.fr f9 (by omega)).ld]; rfl, ?_⟩
  have f09 := f05.trans f9 (by omega)
  have hF9 : FMp w9 f s.files := hF.mono (f09.old _ hfl) fun b bs hb => f09.cells hm hb (Nat.le_refl _)
  refine s71 hh f9.mem hF9 fun w11 f11 hF11 z11 => gd_t rfl (gd_t rfl (gd_t rfl ?_))
  have b5' := (b5.fr f9 (by omega)).fr f11 (by omega)
  refine fill_of (vs := [.map w5.size, .map w9.size]) b5' f11.mem (by omega) rfl fun w12 c12 b12 z12 => ⟨_, _, by rw [b12.ldN (by simp)]; rfl, ?_⟩
  have ht := Tz.box f11.mem c12 b5' b12 (by simp)
  refine hK w5.size w9.size w12 ?_ (by omega) (by omega) (by omega) (by omega) (by omega) ((hN9.fr (f11.old _ (by omega))).fr (c12.old _ (by omega) (by simp; omega))) (hF11.mono (c12.old _ (by omega) (by simp; omega)) ht.cells)
  exact (f09.trans f11 (by omega)).trans (c12.fr (n := w.size) (by omega) (by simp; omega)) (Nat.le_refl _)

theorem lookR_int {z : AV} {m : AV} {i : Int} : lookR (.int .i64) z false w m (.int .i64 i) = lookS z false w m (.int .i64 i) := rfl
theorem kvSetR_int {m v : AV} {i : Int} : kvSetR (.int .i64) w m (.int .i64 i) v = kvSet w m (.int .i64 i) v := rfl

/-- Crash. -/
theorem s17 {keep : List Bool} {kv : AV} (hh : HK hk) (hm : Mem w) (hw : 0 < w.size) (h : DkM X w D n1 f1 n2 f2 sv d) (hV : d.V k) (hkk : k < 2 ^ 27) (hkl : keep.length < 2 ^ 64) (hkv : RsT w kv keep) (hkD : blk kv ≠ some D)
    (hK : ∀ X' n1 f1 n2 f2 w', (∀ x ∈ X, x ∈ X') → (∀ x ∈ X', x ∈ X ∨ w.size ≤ x) → Tz X w w' → DkM X' w' D n1 f1 n2 f2 .nilslice (d.crash keep) → K (.int .i64 0) w') : Cl Try.prog hk 17 [.ptr D 0, kv] w K := by
  apply in17 (hh.no _ _ _ (by decide) (by decide))
  unfold F17
  refine s47 hh h.box ⟨false, rfl, ifT_f ?_⟩
  simp only [onP]
  refine onM_s (v := sv) (by rw [h.box.ld]; rfl) ⟨_, h.rs.len, ?_⟩
  have hsl := hV.steps
  have hx1 := h.inX
  refine loopP_ind (fun i lv w11 => ∃ j : Nat, j ≤ d.steps.length ∧ i = d.steps.length - j ∧ lv = [.int .i64 j] ∧ Tz X w w11 ∧ DkM X w11 D n1 f1 n2 f2 sv { d with safe := keepL keep 0 (d.steps.take j) d.safe } ∧ RsT w11 kv keep) ?_
    ⟨0, Nat.zero_le _, rfl, rfl, Tz.refl hm, by simpa [keepL] using h, hkv⟩
  rintro i lv w11 ⟨j, hj, rfl, rfl, t11, h11, hkv11⟩ R ih
  have hm11 := t11.ch.mem
  have hs11 := t11.ch.size
  have vS := keepL_V keep (i := 0) (l := d.steps.take j) hV.safe fun x hx => hV.sv x (List.mem_of_mem_take hx)
  refine ⟨_, rfl, fun _ => ifT_d (fun hc => ?_) fun hc => ?_⟩
  · have hjl : j < d.steps.length := by omega
    have hxV := hV.sv _ (List.getElem_mem hjl)
    have hx64 := hxV.1
    have hx69 := Stp.length hx64
    have hrs11 : Rs w11 69 d.steps.length sv (stpsC d.steps) := h11.rs
    refine hrs11.at (i := (j : Int)) (by omega) (by omega) fun bb oo _ hN => ?_
    have hN : ldN 69 w11 bb oo = some (.agg d.steps[j].cells) := by rw [hN]; exact congrArg (fun t => some (AV.agg t)) (stpsC_at h11.sd hjl)
    refine onM_s hN (new_of hm11 fun w17 f17 b17 z17 => ?_)
    simp only [onA]
    refine gd_t (Stp.all _) (gd_t (by rw [hx69]; rfl) (fill_of b17 f17.mem (by omega) (by rw [zstep_length, hx69]) fun w19 c19 b19 z19 => ?_))
    have f19 : Fr w11.size w11 w19 := (Ch.new f17 c19 [] fun z hz => by simp at hz; omega).fr (Nat.le_refl _) (by simp)
    have h19 := h11.fr hm11 f19
    have hkv19 : RsT w19 kv keep := Rs.fr hkv11 hm11 f19 (Nat.le_refl _)
    have t19 : Tz X w w19 := t11.trans (Tz.of_fr hm11 f19)
    have htk : d.steps.take (j + 1) = d.steps.take j ++ [d.steps[j]] := (List.take_append_getElem hjl).symm
    have hsn := keepL_snoc keep d.steps[j] (d.steps.take j) 0 d.safe
    have htl : (d.steps.take j).length = j := by simp; omega
    rw [← htk, htl, Nat.zero_add] at hsn
    have skip : keep.getD j false = false → R [.int .i64 (wi ((j : Int) + 1))] w19 := fun hf => by
      rw [hf] at hsn
      simp only [Bool.false_eq_true, if_false] at hsn
      exact ih (d.steps.length - (j + 1)) (by omega) _ _ ⟨j + 1, by omega, rfl, by rw [wi_eq (by omega) (by omega)]; rfl, t19, by rw [hsn]; exact h19, hkv19⟩
    refine ⟨_, Rs.len hkv19, ifT_d (fun hc2 => ?_) fun hc2 => skip ?_⟩
    · have hjk : j < keep.length := by omega
      refine Rs.at hkv19 (i := (j : Int)) (by omega) (by omega) fun bk ok hf _ => ?_
      have hb0 := hf 0 (by decide)
      have hgd : keep.getD j false = keep[j] := by simp [List.getD_eq_getElem?_getD, hjk]
      refine ⟨keep[j], ?_, ?_⟩
      · rw [Nat.add_zero] at hb0
        rw [hb0]; simp [hjk]
      cases hb : keep[j] with
      | false => exact ifT_f (skip (by rw [hgd, hb]))
      | true =>
        rw [hgd, hb, if_pos rfl] at hsn
        refine ifT_t ⟨_, _, by rw [h19.box.ldN (by simp [Dsk.cells])]; rfl, onM_s (ldN_all b19.cells hx69) ?_⟩
        refine s49 (s := keepL keep 0 (d.steps.take j) d.safe) hh f19.mem (by omega) h19.N1 h19.F1 h19.nd.1 hx64 ⟨hxV.2.1, by have := hxV.2.2.1; omega⟩ (by have := (vS d.steps[j].file).1; omega) fun w30 t30 hN30 hF30 => ⟨rfl, ?_⟩
        have h30 := h19.setSafe f19.mem t30 hN30 hF30
        have hmp : ∀ x ∈ [n1, f1], ∃ es cl, w19.get x = some (.map es cl) := fun x hx => h19.maps x (by simp at hx ⊢; omega)
        refine ih (d.steps.length - (j + 1)) (by omega) _ _ ⟨j + 1, by omega, rfl, by rw [wi_eq (by omega) (by omega)]; rfl, t19.trans (t30.mono fun x hx => ?_), by rw [hsn]; exact h30, Rs.via hkv19 fun c all _ ha => cells_maps f19.mem t30.ch hmp ha⟩
        simp at hx
        rcases hx with rfl | rfl
        · exact hx1.2.1
        · exact hx1.2.2.1
    · simp [List.getD_eq_getElem?_getD, List.getElem?_eq_none (show keep.length ≤ j by omega)]
  · have : j = d.steps.length := by omega
    subst this
    rw [List.take_length] at h11 vS
    clear ih R
    unfold Dsk.crash at hK
    simp only [] at hK
    generalize keepL keep 0 d.steps d.safe = s1 at *
    -- what is held
    refine newMap_of hm11 fun w32 f32 g32 z32 => ?_
    have h32 := h11.fr hm11 f32
    obtain ⟨l11, l11'⟩ := h11.lt hm11
    refine onM_s (v := .map n1) (by rw [h32.box.ld]; rfl) ?_
    obtain ⟨cl, hn1⟩ := h32.N1
    have hn1m := mapAt_of hn1
    unfold rangeK
    simp only [hn1m]
    show onM (some (nEnts s1.names, cl)) _
    refine onM_s rfl ?_
    have fI : Fr w32.size w32 (w32.push (.mapIter (some n1) (nEnts s1.names) cl (nEnts s1.names) none)) := Fr.push f32.mem fun cs f own d e => by cases e
    have gI : (w32.push (.mapIter (some n1) (nEnts s1.names) cl (nEnts s1.names) none)).get w32.size = some (.mapIter (some n1) (nEnts s1.names) cl (nEnts s1.names) none) := by simp
    have zI : (w32.push (.mapIter (some n1) (nEnts s1.names) cl (nEnts s1.names) none)).size = w32.size + 1 := by simp
    generalize w32.push (.mapIter (some n1) (nEnts s1.names) cl (nEnts s1.names) none) = w37 at *
    have hn1l : n1 < w11.size := l11' _ (by simp)
    have t37 : Tz X w w37 := (t11.trans (Tz.of_fr hm11 f32)).trans (Tz.of_fr f32.mem fI)
    refine loopP_ind (fun m lv w40 => ∃ (rest : List (AV × AV)) (last : Option AV) (dn : List Int), m = rest.length ∧ lv = [] ∧ Tz X w w40 ∧ w32.size < w40.size ∧ DkM X w40 D n1 f1 n2 f2 sv { d with safe := s1 } ∧ w40.get n1 = some (.map (nEnts s1.names) cl) ∧ w40.get w32.size = some (.mapIter (some n1) (nEnts s1.names) cl rest last)
        ∧ FMp w40 w11.size (fun k => if k ∈ dn then s1.files k else []) ∧ (∀ e ∈ rest, e ∈ nEnts s1.names) ∧ (∀ e ∈ nEnts s1.names, e ∈ rest ∨ ∃ k ∈ dn, e.2 = .int .i64 k) ∧ ∀ k ∈ dn, k ∈ s1.names.map (·.2)) ?_
      ⟨nEnts s1.names, none, [], rfl, rfl, t37, by omega, h32.fr f32.mem fI, (fI.old _ (by omega)).trans hn1, gI, ⟨[], 0, (fI.old _ (by omega)).trans g32, by simp, fun k => by simp [lookM]⟩, fun _ h => h, fun e he => .inl he, by simp⟩
    rintro m lv w40 ⟨rest, last, dn, rfl, rfl, t40, z40, h40, hn40, hi40, hF40, hr1, hr2, hr3⟩ R ih
    have hm40 := t40.ch.mem
    refine ⟨rfl, fun _ => ?_⟩
    refine join_of (fun lv w42 => ∃ c : Bool, lv = [.bool c] ∧ match c with
      | false => rest = [] ∧ w42 = w40
      | true => ∃ (i : Int) (kk : AV) (rest' : List (AV × AV)), (kk, AV.int .i64 i) ∈ rest ∧ (∀ e ∈ rest, e = (kk, AV.int .i64 i) ∨ e ∈ rest') ∧ (∀ e ∈ rest', e ∈ rest) ∧ rest'.length < rest.length ∧ Ch [w32.size] w40 w42 ∧ w42.size = w40.size ∧ w42.get w32.size = some (.mapIter (some n1) (nEnts s1.names) cl rest' (some (.tup [kk, .int .i64 i])))) ?_ ?_
    · rintro lv w42 ⟨c, rfl, hcc⟩
      refine ⟨c, rfl, fun _ => ?_⟩
      cases c with
      | true =>
        obtain ⟨i, kk, rest', p1, p2, p3, p4, c42, z42, g42⟩ := hcc
        have h42 := h40.obj hm40 c42 hi40 (fun cs f own d e => by cases e) (by
          intro hx
          have := l11' _ hx
          omega)
        have tq := Tz.obj hm40 c42 hi40 (fun cs f own d e => by cases e)
        have hn42 : w42.get n1 = some (.map (nEnts s1.names) cl) := (c42.old _ (by omega) (by simp; omega)).trans hn40
        have hF42 := hF40.mono (c42.old _ (by omega) (by simp; omega)) tq.cells
        refine ifT_t ?_
        unfold entryK
        rw [g42]
        simp only []
        refine onM_s (mapAt_of hn42) (gd_t (by simp) ?_)
        obtain ⟨v, hlk, hsl'⟩ := h42.F1.look i
        refine onM_s (v := .map f1) (by rw [h42.box.ld]; rfl) ?_
        rw [lookR_int]
        refine onM_s hlk ?_
        rw [kvSetR_int]
        obtain ⟨es, cl', q1, q2, q3⟩ := hF42
        refine kvSet_of c42.mem q1 (ints_like q2 _) fun w52 t52 z52 g52 => ?_
        have hne1 : w11.size ∉ [n1, f1, n2, f2] := fun hx => by have := l11' _ hx; omega
        have h52 := h42.obj c42.mem t52.ch q1 (fun cs f own d e => by cases e) hne1
        have hF52 := FMp.set q1 q2 q3 g52 t52.cells (hsl'.mono t52.cells)
        have hi : i ∈ s1.names.map (·.2) := by
          obtain ⟨y, hy, e⟩ := List.mem_map.1 (hr1 _ p1)
          cases e
          exact List.mem_map_of_mem hy
        refine ih _ p4 _ _ ⟨rest', _, i :: dn, rfl, rfl, (t40.trans' tq fun y hy => by simp at hy; omega).trans' t52 fun y hy => by simp at hy; omega, by omega, h52, (t52.ch.old _ (by omega) (by simp; omega)).trans hn42, (t52.ch.old _ (by omega) (by simp; omega)).trans g42, ?_, fun e he => hr1 _ (p3 e he), fun e he => ?_, fun k hk => ?_⟩
        · have : (fun k => if k ∈ i :: dn then s1.files k else []) = updF (fun k => if k ∈ dn then s1.files k else []) i (s1.files i) := by
            funext k
            unfold updF
            by_cases hki : k = i
            · subst hki; simp
            · simp [hki]
          rw [this]; exact hF52
        · rcases hr2 e he with h | ⟨k, hk, e'⟩
          · rcases p2 e h with rfl | h
            · exact .inr ⟨i, List.mem_cons_self, rfl⟩
            · exact .inl h
          · exact .inr ⟨k, List.mem_cons_of_mem _ hk, e'⟩
        · rcases List.mem_cons.1 hk with rfl | hk
          · exact hi
          · exact hr3 k hk
      | false =>
        obtain ⟨rfl, rfl⟩ := hcc
        refine ifT_f ?_
        have hheld : (fun k => if k ∈ dn then s1.files k else []) = heldF s1 := by
          funext k
          unfold heldF
          by_cases hkn : k ∈ s1.names.map (·.2)
          · obtain ⟨y, hy, e⟩ := List.mem_map.1 hkn
            have := hr2 (.str y.1, .int .i64 y.2) (List.mem_map_of_mem (f := fun x : Byts × Int => (AV.str x.1, AV.int .i64 x.2)) hy)
            rcases this with h | ⟨k', hk', e'⟩
            · cases h
            · cases e'
              have hk'' : k ∈ dn := by rw [← e]; exact hk'
              rw [if_pos hk'', if_pos hkn]
          · rw [if_neg hkn, if_neg (fun hk => hkn (hr3 k hk))]
        rw [hheld] at hF40
        have hb40 := h40.box
        have hDm := fun x (hx : x ∈ [n1, f1, n2, f2]) => h40.neD x hx
        obtain ⟨a1, a2, a3, a4, a5, a6⟩ := h40.nd
        have lX := fun x (hx : x ∈ [n1, f1, n2, f2]) => l11' x hx
        have q1 := lX n1 (by simp); have q2 := lX f1 (by simp); have q3 := lX n2 (by simp); have q4 := lX f2 (by simp)
        -- the files that are held
        refine DkM.build (X := w11.size :: X) (d := { d with safe := ⟨s1.names, heldF s1⟩ }) (n1 := n1) (f1 := w11.size) (n2 := n2) (f2 := f2) (sv := sv) hb40 (by simp) hm40 h40.D0 (by simp) rfl h40.N1 hF40 h40.N2 h40.F2 ⟨by omega, a2, a3, by omega, by omega, a6⟩ (h40.st.le fun f hf => List.mem_cons_of_mem _ hf) h40.svD h40.sd (by simp [hx1]) fun w55 t55 z55 h55 => ?_
        refine ⟨_, _, by rw [h55.box.ldN (by simp [Dsk.cells])]; rfl, ?_⟩
        have hm55 := t55.ch.mem
        refine s50 (s := ⟨s1.names, heldF s1⟩) hh hm55 (by omega) h55.N1 h55.F1 fun n2' f2' w61 f61 e1 e2 e3 e4 e5 hN61 hF61 => ⟨_, _, rfl, gd_t rfl ?_⟩
        have hs61 := f61.size
        have h61 := h55.fr hm55 f61
        refine DkM.build (X := n2' :: f2' :: w11.size :: X) (d := { d with safe := ⟨s1.names, heldF s1⟩, now := ⟨s1.names, heldF s1⟩ }) (n1 := n1) (f1 := w11.size) (n2 := n2') (f2 := f2') (sv := sv) h61.box (by simp) f61.mem h61.D0 (by simp) rfl h61.N1 h61.F1 hN61 hF61 ⟨by omega, by omega, by omega, by omega, by omega, e3⟩ (h61.st.le fun f hf => by simp at hf ⊢; right; right; exact hf) h61.svD h61.sd (by simp [hx1]) fun w66 t66 z66 h66 => ?_
        have hm66 := t66.ch.mem
        refine h66.setSteps hm66 (fun _ h => h) (l := []) (fun x hx => (by cases hx)) Gc.nil (by simp [blk]) fun w69 t69 z69 _ h69 => ?_
        have hm69 := t69.ch.mem
        refine h69.put (o := 7) (d' := { d with safe := ⟨s1.names, heldF s1⟩, now := ⟨s1.names, heldF s1⟩, steps := [], down := false }) hm69 (by simp) rfl rfl rfl rfl fun w72 t72 z72 h72 => ?_
        have hm72 := t72.ch.mem
        refine s51 hh (h72.put (o := 8) (d' := { d with safe := ⟨s1.names, heldF s1⟩, now := ⟨s1.names, heldF s1⟩, steps := [], down := false, arm := 0 }) hm72 (by simp) rfl rfl rfl rfl fun w76 t76 z76 h76 => ⟨rfl, ?_⟩)
        have hm76 := t76.ch.mem
        refine s51 hh (h76.put (o := 9) (d' := { d with safe := ⟨s1.names, heldF s1⟩, now := ⟨s1.names, heldF s1⟩, steps := [], down := false, arm := 0, fault := 0 }) hm76 (by simp) rfl rfl rfl rfl fun w80 t80 z80 h80 => ⟨rfl, ?_⟩)
        have hDX : ∀ x ∈ [D], x ∈ X := by simp; exact hx1.1
        have hs40 := t40.ch.size
        refine hK (n2' :: f2' :: w11.size :: X) n1 w11.size n2' f2' w80 (fun x hx => by simp; right; right; right; exact hx) (fun x hx => ?_) ?_ h80
        · simp at hx
          rcases hx with rfl | rfl | rfl | hx
          · right; have := t55.ch.size; omega
          · right; have := t55.ch.size; omega
          · right; omega
          · exact .inl hx
        · exact ((((((t40.trans (t55.mono hDX)).trans (Tz.of_fr hm55 f61)).trans (t66.mono hDX)).trans (t69.mono hDX)).trans (t72.mono hDX)).trans (t76.mono hDX)).trans (t80.mono hDX)
    · intro J hJ
      refine nextK_of hm40 hi40 (mapAt_of hn40) (fun hr => hJ _ _ ⟨false, rfl, hr, rfl⟩) fun kk v rest' p1 p2 p3 p4 w83 c83 z83 g83 => ?_
      obtain ⟨y, hy, e⟩ := List.mem_map.1 (hr1 _ p1)
      cases e
      exact hJ _ _ ⟨true, rfl, y.2, _, rest', p1, p2, p3, p4, c83, z83, g83⟩
end
end Go.Proofs.Ytbjeebgdjlemjaa
