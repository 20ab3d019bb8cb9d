/-
  Crash of the disk, over memory, with its own blocks.
  No condition beyond those that each theorem names.
-/
import Derived.Test.YtgobllfkiannfaaV11
set_option linter.unusedSimpArgs false
open Go.Sx
set_option linter.unusedVariables false
namespace Go.Proofs.Ytgobllfkiannfaa
section
variable {hk : Hook} {A B : Nat → Prop} {I : List Nat} {w0 w w' : AW} {D : Nat} {i i' : DI} {d d' : Dsk} {k k' : Nat} {L L' : Obs} {K : AV → AW → Prop}
theorem lookR_int {z : AV} {m : AV} {i : Int} : lookR (.int .i64) z false w m (.int .i64 i) = lookS z false w m (.int .i64 i) := rfl
theorem kvSetR_int {m v : AV} {i : Int} : kvSetR (.int .i64) w m (.int .i64 i) v = kvSet w m (.int .i64 i) v := rfl
theorem mapAt_of {r cl : Nat} {es : List (AV × AV)} (hg : w.get r = some (.map es cl)) : mapAt w r = some (es, cl) := by unfold mapAt; rw [hg]; rfl
theorem look_of {r cl : Nat} {es : List (AV × AV)} {k z : AV} {ok : Bool} (hg : w.get r = some (.map es cl)) (hk : (es.all fun e => likeK k e.1) = true) : lookS z ok w (.map r) k = lookV z ok (lookM k es) := by
  have hm := mapAt_of hg
  simp only [lookS, mapOf, hm, Option.map_some, Option.bind_some, hk, guardO, cond_true]
  cases lookM k es <;> rfl
theorem s13 {keep : List Bool} {kv : AV} (hh : HK hk) (h : Dk A I w0 w D i d k L) (hkl : keep.length < 2 ^ 62) (hkv : (rL rT).rd (fz B (dkU D i L)) w [kv] keep) (hK : Od A I w0 w D i L (d.crash keep, 0) k K) : Cl Try.prog hk 13 [.ptr D 0, kv] w K := by
  apply in13 (hh.no _ _ _ (by decide) (by decide))
  unfold F13
  have hV := h.V
  have h27 := h.k27
  have hsl := hV.steps
  refine s38 hh (h.ow.ld 0 rfl rfl) ⟨false, rfl, ifT_f ?_⟩
  simp only [onP]
  refine onM_s (h.ow.ld 0 rfl rfl) ⟨_, h.rs.len, ?_⟩
  refine loopP_ind (fun m lvs w11 => ∃ (j : Nat) (i11 : DI), j ≤ d.steps.length ∧ m = d.steps.length - j ∧ lvs = [.int .i64 j] ∧ i11.sv = i.sv ∧ Dk A I w0 w11 D i11 { d with safe := keepL keep 0 (d.steps.take j) d.safe } k L ∧ Xt (dkU D i L) w (dkU D i11 L) w11) ?_
    ⟨0, i, Nat.zero_le _, rfl, rfl, rfl, by simpa [keepL] using h, Xt.refl⟩
  rintro m lvs w11 ⟨j, i11, hj, rfl, rfl, esv, h11, x11⟩ R ih
  have vS := keepL_V keep (i := 0) (l := d.steps.take j) hV.safe fun x hx => hV.sv x (List.mem_of_mem_take hx)
  refine ⟨_, rfl, fun _ => ifT_d (fun hc => ?_) fun hc => ?_⟩
  · have hjl : j < d.steps.length := by omega
    have hxV := hV.sv _ (List.getElem_mem hjl)
    have hx64 := hxV.1
    have hx69 := Stp.length hx64
    have hrs11 : Rs w11 69 d.steps.length i.sv (stpsC d.steps) := by rw [← esv]; exact h11.rs
    refine hrs11.at (i := (j : Int)) (by omega) (by omega) fun bb oo _ hN => ?_
    have hN : ldN 69 w11 bb oo = some (.agg d.steps[j].cells) := by rw [hN]; exact congrArg (fun t => some (AV.agg t)) (stpsC_at (fun x hx => (hV.sv x hx).1) hjl)
    refine onM_s hN (h11.new' fun b16 w17 h17 x17 => ?_)
    simp only [onA]
    refine gd_t (Stp.all _) (gd_t (by rw [hx69]; rfl) (h17.wr 0 rfl (by rw [zstep_length, hx69]; omega) fun w19 h19 x19 => ?_))
    rw [listPut_all (by rw [zstep_length, hx69])] at h19
    have h19 : Dk A I w0 w19 D i11 { d with safe := keepL keep 0 (d.steps.take j) d.safe } k ((b16, .row d.steps[j].cells) :: L) := h19
    have x19' := (x11.trans x17).trans x19
    have hkv19 := hkv.x x19'
    have htk : d.steps.take (j + 1) = d.steps.take j ++ [d.steps[j]] := (List.take_append_getElem hjl).symm
    have hsn := keepL_snoc keep d.steps[j] (d.steps.take j) 0 d.safe
    have htl : (d.steps.take j).length = j := by simp; omega
    rw [← htk, htl, Nat.zero_add] at hsn
    have skip : keep.getD j false = false → R [.int .i64 (wi ((j : Int) + 1))] w19 := fun hf => by
      rw [hf] at hsn
      simp only [Bool.false_eq_true, if_false] at hsn
      obtain ⟨h20, x20, _⟩ := h19.drop
      exact ih (d.steps.length - (j + 1)) (by omega) _ _ ⟨j + 1, i11, by omega, rfl, by rw [wi_eq (by omega) (by omega)]; rfl, esv, by rw [hsn]; exact h20, x19'.trans x20⟩
    refine ⟨_, hkv19.len', ifT_d (fun hc2 => ?_) fun hc2 => skip ?_⟩
    · have hjk : j < keep.length := by omega
      have hgd : keep.getD j false = keep[j] := by simp [List.getD_eq_getElem?_getD, hjk]
      refine hkv19.at1 rfl hjk fun bk ok a ha hld => ⟨keep[j], ?_, ?_⟩
      · have ha : [a] = [AV.bool keep[j]] := ha
        rw [hld]; injection ha with ha; rw [ha]
      cases hb : keep[j] with
      | false => exact ifT_f (skip (by rw [hgd, hb]))
      | true =>
        rw [hgd, hb, if_pos rfl] at hsn
        have hld : ldN 69 w19 b16 0 = some (.agg d.steps[j].cells) := h19.ow.ldN 6 rfl (by rw [hx69]; rfl) (by rw [List.drop_zero, List.take_of_length_le (by omega)])
        refine ifT_t ⟨_, _, h19.ow.ldN 0 rfl rfl rfl, onM_s hld ?_⟩
        refine s43 (a := 1) (b := 2) (s := keepL keep 0 (d.steps.take j) d.safe) hh h19.ow rfl rfl (by decide) h19.f1 hx64 ⟨hxV.2.1, by have := hxV.2.2.1; omega⟩ (by have := (vS d.steps[j].file).1; omega) fun w31 es' st31 x31 hF31 => ⟨rfl, ?_⟩
        let i31 : DI := { i11 with e1 := es' }
        have x31 : Xt (dkU D i11 ((b16, .row d.steps[j].cells) :: L)) w19 (dkU D i31 ((b16, .row d.steps[j].cells) :: L)) w31 := x31
        have h31 : Dk A I w0 w31 D i31 { d with safe := (keepL keep 0 (d.steps.take j) d.safe).does d.steps[j] } k ((b16, .row d.steps[j].cells) :: L) :=
          ⟨st31, h19.st, hF31, h19.f2.x x31, ⟨hV.steps, hV.sv, FS.V.does vS hxV, hV.now, hV.last⟩, h27⟩
        obtain ⟨h32, x32, _⟩ := h31.drop
        exact ih (d.steps.length - (j + 1)) (by omega) _ _ ⟨j + 1, i31, by omega, rfl, by rw [wi_eq (by omega) (by omega)]; rfl, esv, by rw [hsn]; exact h32, (x19'.trans x31).trans x32⟩
    · simp [List.getD_eq_getElem?_getD, List.getElem?_eq_none (show keep.length ≤ j by omega)]
  · have : j = d.steps.length := by omega
    subst this
    rw [List.take_length] at h11 vS
    clear ih R
    unfold Dsk.crash at hK
    simp only [] at hK
    generalize keepL keep 0 d.steps d.safe = s1 at *
    refine h11.newMap' fun m31 w32 h32 x32 => ?_
    have hm32 := h32.ow.mem
    have hbx := h32.ow.box
    have nd := h32.ow.nd
    have gD : Box w32 D (({ d with safe := s1 } : Dsk).cells i11.n1 i11.f1 i11.n2 i11.f2 i11.sv) := (hbx _ (nth_mem (i := 0) rfl) rfl).1
    obtain ⟨cl, gn⟩ := (hbx (i11.n1, .map (nEnts s1.names)) (nth_mem (i := 1) rfl) rfl).1
    obtain ⟨clf, gf⟩ := (hbx (i11.f1, .map i11.e1) (nth_mem (i := 2) rfl) rfl).1
    obtain ⟨⟨clm, gm⟩, o1, o2, o3⟩ := hbx (m31, .map []) (nth_mem (i := 6) rfl) rfl
    have gn : w32.get i11.n1 = some (.map (nEnts s1.names) cl) := gn
    have gf : w32.get i11.f1 = some (.map i11.e1 clf) := gf
    have gm : w32.get m31 = some (.map [] clm) := gm
    have uq : ∀ {a : Nat} {p : Nat × Ob}, a ≠ 6 → nth (dkL D i11 { d with safe := s1 } ((m31, .map []) :: L)) a = some p → p.2.re = true → p.1 ≠ m31 := fun ha hp hr e => ha (Obs.uniq nd hp (j := 6) (q := (m31, .map [])) rfl hr rfl e)
    have neD : D ≠ m31 := uq (a := 0) (by decide) rfl rfl
    have nen : i11.n1 ≠ m31 := uq (a := 1) (by decide) rfl rfl
    have nef : i11.f1 ≠ m31 := uq (a := 2) (by decide) rfl rfl
    have lD : D < w32.size := gD.lt hm32
    have ln : i11.n1 < w32.size := hm32.lt _ _ gn
    have lf : i11.f1 < w32.size := hm32.lt _ _ gf
    have lm : m31 < w32.size := hm32.lt _ _ gm
    refine onM_s (h32.ow.ld 0 rfl rfl) ?_
    have hn1m := mapAt_of gn
    unfold rangeK
    simp only [hn1m]
    show onM (some (nEnts s1.names, cl)) _
    refine onM_s rfl ?_
    have fI : Fr w32.size w32 (w32.push (.mapIter (some i11.n1) (nEnts s1.names) cl (nEnts s1.names) none)) := Fr.push hm32 fun cs f own d e => by cases e
    have gI : (w32.push (.mapIter (some i11.n1) (nEnts s1.names) cl (nEnts s1.names) none)).get w32.size = some (.mapIter (some i11.n1) (nEnts s1.names) cl (nEnts s1.names) none) := by simp
    have zI : (w32.push (.mapIter (some i11.n1) (nEnts s1.names) cl (nEnts s1.names) none)).size = w32.size + 1 := by simp
    generalize w32.push (.mapIter (some i11.n1) (nEnts s1.names) cl (nEnts s1.names) none) = w37 at *
    let U := dkU D i11 ((m31, .map []) :: L)
    refine loopP_ind (fun m lv w40 => ∃ (rest : List (AV × AV)) (last : Option AV) (dn : List Int) (es : List (AV × AV)) (cl' : Nat), m = rest.length ∧ lv = [] ∧ Mem w40 ∧ w32.size < w40.size ∧ (∀ c, c < w32.size → c ≠ m31 → w40.get c = w32.get c) ∧ w40.get m31 = some (.map es cl') ∧ w40.get w32.size = some (.mapIter (some i11.n1) (nEnts s1.names) cl rest last)
        ∧ FEn (fz A U) w32 es (fun k => if k ∈ dn then s1.files k else []) ∧ (∀ e ∈ rest, e ∈ nEnts s1.names) ∧ (∀ e ∈ nEnts s1.names, e ∈ rest ∨ ∃ k ∈ dn, e.2 = .int .i64 k) ∧ ∀ k ∈ dn, k ∈ s1.names.map (·.2)) ?_
      ⟨nEnts s1.names, none, [], [], clm, rfl, rfl, fI.mem, by omega, fun c hc _ => fI.old c hc, (fI.old _ lm).trans gm, gI, FEn.none, fun _ h => h, fun e he => .inl he, by simp⟩
    rintro m lv w40 ⟨rest, last, dn, es, cl', rfl, rfl, hm40, z40, g40, gm40, hi40, hF40, hr1, hr2, hr3⟩ R ih
    refine ⟨rfl, fun _ => ?_⟩
    refine join_of (fun lv w42 => ∃ c : Bool, lv = [.bool c] ∧ match c with
      | false => rest = [] ∧ w42 = w40
      | true => ∃ (i : Int) (kk : AV) (rest' : List (AV × AV)), (kk, AV.int .i64 i) ∈ rest ∧ (∀ e ∈ rest, e = (kk, AV.int .i64 i) ∨ e ∈ rest') ∧ (∀ e ∈ rest', e ∈ rest) ∧ rest'.length < rest.length ∧ Ch [w32.size] w40 w42 ∧ w42.size = w40.size ∧ w42.get w32.size = some (.mapIter (some i11.n1) (nEnts s1.names) cl rest' (some (.tup [kk, .int .i64 i])))) ?_ ?_
    · rintro lv w42 ⟨c, rfl, hcc⟩
      refine ⟨c, rfl, fun _ => ?_⟩
      cases c with
      | true =>
        obtain ⟨i0, kk, rest', p1, p2, p3, p4, c42, z42, g42⟩ := hcc
        have o42 : ∀ c, c < w32.size → w42.get c = w40.get c := fun c hc => c42.old c (by omega) (by simp; omega)
        have gg : ∀ c, c < w32.size → c ≠ m31 → w42.get c = w32.get c := fun c hc hn => (o42 c hc).trans (g40 c hc hn)
        have gm42 : w42.get m31 = some (.map es cl') := (o42 _ lm).trans gm40
        refine ifT_t ?_
        unfold entryK
        rw [g42]
        simp only []
        refine onM_s (mapAt_of ((gg _ ln nen).trans gn)) (gd_t (by simp) ?_)
        obtain ⟨v, hlk, hsl'⟩ := h32.f1.look i0
        have bD : Box w42 D (({ d with safe := s1 } : Dsk).cells i11.n1 i11.f1 i11.n2 i11.f2 i11.sv) := (gg _ lD neD).trans gD
        refine onM_s (v := .map i11.f1) (by rw [bD.ld]; rfl) ?_
        rw [lookR_int, look_of ((gg _ lf nef).trans gf) (h32.f1.like _)]
        refine onM_s hlk ?_
        rw [kvSetR_int]
        refine kvSet_of c42.mem gm42 (hF40.like _) fun w52 t52 z52 g52 => ?_
        have hi : i0 ∈ s1.names.map (·.2) := by
          obtain ⟨y, hy, e⟩ := List.mem_map.1 (hr1 _ p1)
          cases e
          exact List.mem_map_of_mem hy
        refine ih _ p4 _ _ ⟨rest', _, i0 :: dn, _, _, rfl, rfl, t52.ch.mem, by omega, fun c hc hn => (t52.ch.old _ (by omega) (by simpa using hn)).trans (gg c hc hn), g52, (t52.ch.old _ (by omega) (by simp; omega)).trans g42, ?_, fun e he => hr1 _ (p3 e he), fun e he => ?_, fun k hk => ?_⟩
        · have : (fun k => if k ∈ i0 :: dn then s1.files k else []) = updF (fun k => if k ∈ dn then s1.files k else []) i0 (s1.files i0) := by
            funext k
            unfold updF
            by_cases hki : k = i0
            · subst hki; simp
            · simp [hki]
          rw [this]; exact hF40.set hsl'
        · rcases hr2 e he with h | ⟨k, hk, e'⟩
          · rcases p2 e h with rfl | h
            · exact .inr ⟨i0, List.mem_cons_self, rfl⟩
            · exact .inl h
          · exact .inr ⟨k, List.mem_cons_of_mem _ hk, e'⟩
        · rcases List.mem_cons.1 hk with rfl | hk
          · exact hi
          · exact hr3 k hk
      | false =>
        obtain ⟨rfl, e42⟩ := hcc
        rw [e42]
        refine ifT_f ?_
        have hheld : (fun k => if k ∈ dn then s1.files k else []) = heldF s1 := by
          funext k
          unfold heldF
          by_cases hkn : k ∈ s1.names.map (·.2)
          · obtain ⟨y, hy, e⟩ := List.mem_map.1 hkn
            have := hr2 (.str y.1, .int .i64 y.2) (List.mem_map_of_mem (f := fun x : Byts × Int => (AV.str x.1, AV.int .i64 x.2)) hy)
            rcases this with h | ⟨k', hk', e'⟩
            · cases h
            · cases e'
              have hk'' : k ∈ dn := by rw [← e]; exact hk'
              rw [if_pos hk'', if_pos hkn]
          · rw [if_neg hkn, if_neg (fun hk => hkn (hr3 k hk))]
        rw [hheld] at hF40
        -- the disk is as it was, and the map is filled
        obtain ⟨st0, x0⟩ := h32.ow.perm (L' := (m31, .map []) :: dkL D i11 { d with safe := s1 } L) dkL_mid.symm
        have hnm : m31 ∉ ids (dkL D i11 { d with safe := s1 } L) := nd_head st0.nd rfl
        obtain ⟨st1, _⟩ := Ow.spoil (M := [(m31, .map [])]) (w' := w40) st0 (by omega) hm40 fun c hc hn => g40 c hc fun e => hn (by rw [e]; exact List.mem_cons_self)
        have st2 := own_or st1 (o := .map es) ⟨cl', gm40⟩ o1 hnm o2 o3
        obtain ⟨st3, _⟩ := st2.perm (L' := dkL D i11 { d with safe := s1 } ((m31, .map es) :: L)) dkL_mid
        have mU : m31 ∈ U := ids_mem (p := (m31, .map [])) (nth_mem (i := 6) rfl) (L := dkL D i11 { d with safe := s1 } ((m31, .map []) :: L)) rfl
        have x40 : Xt (dkU D i11 ((m31, .map []) :: L)) w32 (dkU D i11 ((m31, .map es) :: L)) w40 :=
          ⟨⟨fun c f all a b e => ⟨a, b, e.congr (g40 c (e.lt hm32).1 fun q => a (by rw [q]; exact mU)) (g40 f (by have := e.lt hm32; omega) fun q => b (by rw [q]; exact mU))⟩⟩, fun c a b => ⟨b, g40 c a fun q => b (by rw [q]; exact mU)⟩, by omega⟩
        have hF := hF40.x x40
        have hFV : FS.V ⟨s1.names, heldF s1⟩ := fun f => by
          simp only [heldF]
          split
          · exact vS f
          · simp
        have f2' := h32.f2.x x40
        -- its files are the held ones
        refine st3.put 0 rfl (by simp [Dsk.cells]) fun w55 st55 x55 => ?_
        obtain ⟨st56, x56⟩ := st55.front 2 rfl
        obtain ⟨st57, x57⟩ := st56.forget
        obtain ⟨st58, x58⟩ := st57.front 5 rfl
        obtain ⟨st59, x59⟩ := st58.front 2 rfl
        obtain ⟨st60, x60⟩ := st59.front 2 rfl
        let i2 : DI := { i11 with f1 := m31, e1 := es }
        let d2 : Dsk := { d with safe := ⟨s1.names, heldF s1⟩ }
        have st60 : Ow A I w0 w55 (dkL D i2 d2 L) := st60
        have x60 : Xt (dkU D i11 ((m31, .map es) :: L)) w40 (dkU D i2 L) w55 := ((((x55.trans x56).trans x57).trans x58).trans x59).trans x60
        refine ⟨_, _, st60.ldN 0 rfl rfl rfl, ?_⟩
        refine s39 (a := 1) (b := 2) hh st60 rfl rfl fun n2' f2n w61 st61 x61 => ⟨_, _, rfl, gd_t rfl ?_⟩
        refine st61.put 2 rfl (by simp [Dsk.cells]) fun w66 st66 x66 => ?_
        obtain ⟨st67, x67⟩ := st66.front 5 rfl
        obtain ⟨st68, x68⟩ := st67.forget
        obtain ⟨st69, x69⟩ := st68.front 5 rfl
        obtain ⟨st70, x70⟩ := st69.forget
        obtain ⟨st71, x71⟩ := st70.front 1 rfl
        obtain ⟨st72, x72⟩ := st71.front 4 rfl
        obtain ⟨st73, x73⟩ := st72.front 4 rfl
        obtain ⟨st74, x74⟩ := st73.front 4 rfl
        let i3 : DI := { i2 with n2 := n2', f2 := f2n, e2 := es }
        let d3 : Dsk := { d with safe := ⟨s1.names, heldF s1⟩, now := ⟨s1.names, heldF s1⟩ }
        have st74 : Ow A I w0 w66 (dkL D i3 d3 L) := st74
        have x74 : Xt (dkU D i2 L) w55 (dkU D i3 L) w66 := (((((((((x61.trans x66).trans x67).trans x68).trans x69).trans x70).trans x71).trans x72).trans x73).trans x74)
        refine st74.put 0 rfl (by simp [Dsk.cells]) fun w69 st75 x75 => ?_
        let i4 : DI := { i3 with sv := .nilslice }
        let d4 : Dsk := { d3 with steps := [] }
        have st75 : Ow A I w0 w69 (dkL D i4 d4 L) := st75
        have x75 : Xt (dkU D i3 L) w66 (dkU D i4 L) w69 := x75
        have xx : Xt (dkU D i11 ((m31, .map es) :: L)) w40 (dkU D i4 L) w69 := (x60.trans x74).trans x75
        have h75 : Dk A I w0 w69 D i4 d4 k L := ⟨st75, Sv.nil, hF.x xx, hF.x xx, ⟨Nat.zero_le _, fun x hx => (by cases hx), hFV, hFV, hV.last⟩, h27⟩
        refine h75.put (o := 7) (d' := { d4 with down := false }) (by simp) rfl rfl rfl rfl ⟨Nat.zero_le _, fun x hx => (by cases hx), hFV, hFV, hV.last⟩ h27 fun w72 h76 x76 => ?_
        refine s41 hh (h76.put (o := 8) (d' := { d4 with down := false, arm := 0 }) (by simp) rfl rfl rfl rfl ⟨Nat.zero_le _, fun x hx => (by cases hx), hFV, hFV, hV.last⟩ h27 fun w76 h77 x77 => ⟨rfl, ?_⟩)
        refine s41 hh (h77.put (o := 9) (d' := { d4 with down := false, arm := 0, fault := 0 }) (by simp) rfl rfl rfl rfl ⟨Nat.zero_le _, fun x hx => (by cases hx), hFV, hFV, hV.last⟩ h27 fun w80 h78 x78 => ⟨rfl, ?_⟩)
        exact hK i4 w80 h78 (((((x11.trans x32).trans x40).trans xx).trans x76).trans (x77.trans x78))
    · intro J hJ
      refine nextK_of hm40 hi40 (mapAt_of ((g40 _ ln nen).trans gn)) (fun hr => hJ _ _ ⟨false, rfl, hr, rfl⟩) fun kk v rest' p1 p2 p3 p4 w42 c42 z42 g42 => ?_
      obtain ⟨y, hy, e⟩ := List.mem_map.1 (hr1 _ p1)
      cases e
      exact hJ _ _ ⟨true, rfl, y.2, _, rest', p1, p2, p3, p4, c42, z42, g42⟩
end
end Go.Proofs.Ytgobllfkiannfaa
