/-
  Crash and Copy of the disk, over memory, with its own blocks.
  No condition beyond those that each theorem names.
-/
import Derived.Test.YtgobllfkiannfaaJ11
import Derived.Test.YtgobllfkiannfaaSxy
set_option linter.unusedSimpArgs false
open Go.Sx
set_option linter.unusedVariables false
namespace Go.Proofs.Ytgobllfkiannfaa
section
variable {hk : Hook} {A B : Nat → Prop} {I : List Nat} {w0 w w' : AW} {D : Nat} {i i' : DI} {d d' : Dsk} {k k' : Nat} {L L' : Obs} {K : AV → AW → Prop}
theorem own_or (h : Ow A I w0 w L) {b : Nat} {o : Ob} (hb : o.is w b) (h1 : w0.size ≤ b ∨ b ∈ I) (h2 : b ∉ ids L) (hA : A b) (hz : b ≠ 0) : Ow A I w0 w ((b, o) :: L) :=
  ⟨h.mem, h.pos, h.size, h.old, h.new, fun p hp hr => by
    rcases List.mem_cons.1 hp with rfl | hp
    · exact ⟨hb, h1, hA, hz⟩
    · exact h.box p hp hr, nd_cons h.nd fun _ => h2⟩
theorem ow_clone {es : List (AV × AV)} (st : Ow A I w0 w L) : ∃ w', w' = w.push (.map es 0) ∧ Ow A I w0 w' ((w.size, .map es) :: L) ∧ Xt (ids L) w (w.size :: ids L) w' :=
  ⟨_, rfl, st.push (p := (w.size, .map es)) rfl (Fr.push st.mem fun cs f own d e => (by cases e)) (Nat.le_refl _) ⟨0, by simp⟩⟩
set_option maxRecDepth 100000 in
theorem s69 {a n : Nat} {es : List (AV × AV)} (hh : HK hk) (st : Ow A I w0 w L) (ha : nth L a = some (n, .map es)) (hK : ∀ m w', Ow A I w0 w' ((m, .map es) :: L) → Xt (ids L) w (m :: ids L) w' → K (.map m) w') : Cl Try.prog hk 69 [.map n] w K := by
  apply in69 (hh.no _ _ _ (by decide) (by decide))
  unfold F69
  obtain ⟨cl, hg⟩ := (st.box _ (nth_mem ha) rfl).1
  obtain ⟨_, rfl, a1, a2⟩ := ow_clone (es := es) st
  exact ⟨false, by kernel_rfl, ifT_f (Cl_ext (hh.no _ _ _ (by decide) (by decide)) Try.func83 rfl (ext_clone hg) (onM_s (v := .map w.size) (by kernel_rfl) (hK _ _ a1 a2)))⟩
set_option maxRecDepth 100000 in
theorem s70 {a n : Nat} {es : List (AV × AV)} (hh : HK hk) (st : Ow A I w0 w L) (ha : nth L a = some (n, .map es)) (hK : ∀ m w', Ow A I w0 w' ((m, .map es) :: L) → Xt (ids L) w (m :: ids L) w' → K (.map m) w') : Cl Try.prog hk 70 [.map n] w K := by
  apply in70 (hh.no _ _ _ (by decide) (by decide))
  unfold F70
  obtain ⟨cl, hg⟩ := (st.box _ (nth_mem ha) rfl).1
  obtain ⟨_, rfl, a1, a2⟩ := ow_clone (es := es) st
  exact ⟨false, by kernel_rfl, ifT_f (Cl_ext (hh.no _ _ _ (by decide) (by decide)) Try.func83 rfl (ext_clone hg) (onM_s (v := .map w.size) (by kernel_rfl) (hK _ _ a1 a2)))⟩
theorem s39 {a b n f : Nat} {es es2 : List (AV × AV)} (hh : HK hk) (st : Ow A I w0 w L) (ha : nth L a = some (n, .map es)) (hb : nth L b = some (f, .map es2))
    (hK : ∀ n' f' w', Ow A I w0 w' ((f', .map es2) :: (n', .map es) :: L) → Xt (ids L) w (f' :: n' :: ids L) w' → K (.agg [.map n', .map f']) w') : Cl Try.prog hk 39 [.agg [.map n, .map f]] w K := by
  apply in39 (hh.no _ _ _ (by decide) (by decide))
  unfold F39
  refine gd_t rfl (st.new' fun b2 w3 st3 x3 => st3.new' fun b4 w5 st5 x5 => ?_)
  refine onM_s (st5.ld 1 rfl rfl) (onM_s (st5.ld 1 rfl rfl) ?_)
  refine s69 (a := a + 2) hh st5 ha fun n' w9 st9 x9 => ⟨st9.ld 2 rfl rfl, ?_⟩
  refine s70 (a := b + 3) hh st9 hb fun f' w11 st11 x11 => gd_t rfl (gd_t rfl (gd_t rfl ?_))
  refine st11.put 2 rfl (by simp) fun w12 st12 x12 => ⟨_, _, st12.ldN 2 rfl rfl rfl, ?_⟩
  obtain ⟨st13, x13⟩ := st12.front 2 rfl
  obtain ⟨st14, x14, _⟩ := st13.drop
  obtain ⟨st15, x15⟩ := st14.front 2 rfl
  obtain ⟨st16, x16, _⟩ := st15.drop
  exact hK n' f' w12 st16 (((((((x3.trans x5).trans x9).trans x11).trans x12).trans x13).trans x14).trans (x15.trans x16))
theorem s40 {a f : Nat} {o : Ob} {v : AV} {l : List Stp} (hh : HK hk) (st : Ow A I w0 w L) (ha : nth L a = some (f, o)) (hv : Sv 69 o v (stpsC l)) (hl : ∀ x ∈ l, x.data.length = 64) (hs : l.length < 2 ^ 27)
    (hK : ∀ v' f' o' w', Ow A I w0 w' ((f', o') :: L) → Xt (ids L) w (ids ((f', o') :: L)) w' → Sv 69 o' v' (stpsC l) → K v' w') : Cl Try.prog hk 40 [v] w K := by
  apply in40 (hh.no _ _ _ (by decide) (by decide))
  unfold F40
  have hcl := stpsC_length hl
  have hr := st.sv ha hv (by decide) hcl
  rcases hv with ⟨rfl, h2⟩ | ⟨b, n, ex, rfl, rfl, h2, h3⟩
  · have hK := hK .nilslice 0 .none w st.room (Xt.refl (U := ids L)) (.inl ⟨rfl, h2⟩)
    exact ⟨true, by kernel_rfl, ifT_t hK⟩
  · refine ⟨false, by kernel_rfl, ifT_f (st.new' fun b2 w3 st3 x3 => ?_)⟩
    have hb : Box w3 b2 [] := (st3.box _ List.mem_cons_self rfl).1
    have st4 : Ow A I w0 w3 ((b2, .acc b2 []) :: L) := ⟨st3.mem, st3.pos, st3.size, st3.old, st3.new, fun p hp hr => by
      rcases List.mem_cons.1 hp with rfl | hp
      · exact ⟨⟨⟨_, _, hb⟩, AW.root?_iff.2 ⟨_, hb, rfl⟩⟩, (st3.box _ List.mem_cons_self rfl).2⟩
      · exact st3.box p (List.mem_cons_of_mem _ hp) hr, st3.nd⟩
    have hr3 : Rs w3 69 l.length (.slice b 0 n n ex) (stpsC l) := by
      have := st3.sv (i := a + 1) ha (.inr ⟨b, n, ex, rfl, rfl, h2, h3⟩) (by decide) hcl
      exact this
    refine st4.accApp 0 (f := b2) (o := .acc b2 []) (cs := []) rfl (.inr ⟨b2, 0, none, rfl, rfl, rfl, .inl rfl⟩) (by decide) hr3 (by simp; omega) (by simp; omega) fun v' f' o' w' st5 x5 hs' => ?_
    exact hK v' f' o' w' st5 (x3.trans x5) hs'
theorem s10 (hh : HK hk) (h : Dk A I w0 w D i d k L)
    (hK : ∀ D' i' w', Dk A I w0 w' D' i' d k (dkL D i d L) → Xt (dkU D i L) w (dkU D' i' (dkL D i d L)) w' → K (.ptr D' 0) w') : Cl Try.prog hk 10 [.ptr D 0] w K := by
  apply in10 (hh.no _ _ _ (by decide) (by decide))
  unfold F10
  have hV := h.V
  have h27 := h.k27
  have hsl := hV.steps
  refine s38 hh (h.ow.ld 0 rfl rfl) ⟨false, rfl, ifT_f ?_⟩
  simp only [onP]
  refine ⟨_, _, h.ow.ldN 0 rfl rfl rfl, _, _, h.ow.ldN 0 rfl rfl rfl, onM_s (h.ow.ld 0 rfl rfl) ⟨d.last, h.ow.ld 0 rfl rfl, d.down, h.ow.ld 0 rfl rfl, d.wth, h.ow.ld 0 rfl rfl, ?_⟩⟩
  refine s39 (a := 1) (b := 2) hh h.ow rfl rfl fun n1' f1' w25 st25 x25 => ⟨_, _, rfl, st25.ld 2 rfl rfl, st25.ld 2 rfl rfl, st25.ld 2 rfl rfl, st25.ld 2 rfl rfl, st25.ldN 2 rfl rfl rfl, ?_⟩
  refine s39 (a := 5) (b := 6) hh st25 rfl rfl fun n2' f2' w29 st29 x29 => ⟨_, _, rfl, st29.ld 4 rfl rfl, st29.ld 4 rfl rfl, st29.ld 4 rfl rfl, st29.ld 4 rfl rfl, ?_⟩
  refine s40 (a := 9) hh st29 rfl h.st h.sd (by omega) fun sv' sf' so' w33 st33 x33 hsv => ?_
  refine gd_t hsv.ok (gd_t (by simp only [List.all_cons, List.all_nil, hsv.ok]; rfl) (st33.new' fun D' w35 st35 x35 => ?_))
  refine ⟨st35.ld 6 rfl rfl, st35.ld 6 rfl rfl, st35.ld 6 rfl rfl, ?_⟩
  refine s42 hh (n := d.arm) (st35.ld 6 rfl rfl) ⟨_, rfl, ?_⟩
  refine s41 hh (st35.put 0 rfl (by simp) fun w42 st42 x42 => ⟨rfl, ?_⟩)
  refine s42 hh (n := d.fault) (st42.ld 6 rfl rfl) ⟨_, rfl, ?_⟩
  refine s41 hh (st42.put 0 rfl (by simp [listPut]) fun w49 st49 x49 => ⟨rfl, ?_⟩)
  have st49 : Ow A I w0 w49 ((D', .row (d.cells n1' f1' n2' f2' sv')) :: (sf', so') :: (f2', .map i.e2) :: (n2', .map (nEnts d.now.names)) :: (f1', .map i.e1) :: (n1', .map (nEnts d.safe.names)) :: dkL D i d L) := st49
  obtain ⟨st50, x50⟩ := st49.front 1 rfl
  obtain ⟨st51, x51⟩ := st50.front 2 rfl
  obtain ⟨st52, x52⟩ := st51.front 3 rfl
  obtain ⟨st53, x53⟩ := st52.front 4 rfl
  obtain ⟨st54, x54⟩ := st53.front 5 rfl
  obtain ⟨st55, x55⟩ := st54.front 5 rfl
  let i2 : DI := ⟨n1', f1', n2', f2', sf', so', sv', i.e1, i.e2⟩
  have st55 : Ow A I w0 w49 (dkL D' i2 d (dkL D i d L)) := st55
  have y1 := ((((x25.trans x29).trans x33).trans x35).trans x42).trans x49
  have xx : Xt (dkU D i L) w (dkU D' i2 (dkL D i d L)) w49 := (((((y1.trans x50).trans x51).trans x52).trans x53).trans x54).trans x55
  exact hK D' i2 w49 ⟨st55, hsv, h.f1.x xx, h.f2.x xx, hV, h27⟩ xx
end
end Go.Proofs.Ytgobllfkiannfaa
