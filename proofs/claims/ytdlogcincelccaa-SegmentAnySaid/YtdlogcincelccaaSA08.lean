/-
  SegmentAny.
  No condition beyond those that each theorem names.
-/
import Derived.Test.YtdlogcincelccaaP08
set_option linter.unusedSimpArgs false
open Go.Sx
set_option linter.unusedVariables false
set_option linter.unusedSimpArgs false
namespace Go.Proofs.Ytdlogcincelccaa
def Lp (d : Dsk) (nm : Byts) (i : Nat) : Prop := (i = 0 ∧ d = Dsk.none) ∨ ∃ ss, Fl d nm 1 ss ∧ ss.length = i ∧ ∀ s ∈ ss, s.length = 64
theorem Lp.put {d : Dsk} {nm data : Byts} {i : Nat} (hn : named nm = true) (h : Lp d nm i) (hl : data.length = 64) (hi : i < 4096) : ∃ d', d.put nm (i : Int) data = (d', 0) ∧ Lp d' nm (i + 1) := by
  rcases h with ⟨rfl, rfl⟩ | ⟨ss, h1, h2, h3⟩
  · obtain ⟨d', g1, g2⟩ := Fl.first hn hl
    exact ⟨d', g1, .inr ⟨_, g2, rfl, by simpa using hl⟩⟩
  · obtain ⟨d', g1, g2⟩ := h1.put hn hl (j := i) (by omega) hi
    obtain ⟨p1, _, _⟩ := putS_get (ss := ss) (j := i) (x := data) (by omega)
    refine ⟨d', g1, .inr ⟨_, g2, by omega, fun s hs => ?_⟩⟩
    unfold putS at hs
    rcases List.mem_or_eq_of_mem_set hs with hs | rfl
    · rcases List.mem_append.1 hs with hs | hs
      · exact h3 s hs
      · have := List.eq_of_mem_replicate hs
        rw [this]; simp [zsec]
    · exact hl
theorem Lp.opened {d : Dsk} {nm : Byts} {i : Nat} (hn : named nm = true) (h : Lp d nm i) (hi : i ≤ 20) : (d.read nm).1.length ≤ 1280 ∧ ∃ d', openD nm d = (d', 0) ∧ Stt d' nm (kept (d.read nm).1) := by
  rcases h with ⟨rfl, rfl⟩ | ⟨ss, h1, h2, h3⟩
  · exact ⟨Nat.zero_le _, _, open_none, .inl ⟨rfl, rfl⟩⟩
  · obtain ⟨d', ss', g1, g2, g3⟩ := open_ok hn h1 h3 (by omega)
    have e : (d.read nm).1 = ss.flatten := by rw [h1.read]
    rw [e]
    exact ⟨by rw [flat_len h3]; omega, d', g1, .inr ⟨ss', g2, g3⟩⟩
section
variable {hk : Hook} {A B : Nat → Prop} {I : List Nat} {w0 w w' : AW} {D S : Nat} {i i' : DI} {d d' : Dsk} {k k' : Nat} {L L' : Obs} {K : AV → AW → Prop} {nm bs : Byts} {E : List Nat} {bv ev : AV} {br : Bool} {ef : Nat} {eo : Ob}
theorem s17 (hh : HK hk) (h : Dk A I w0 w D i d k ((S, .row (segC D nm bv ev false)) :: L)) (hs : d.sync nm = (d', 0)) (hK : ∀ i' w', Dk A I w0 w' D i' d' k ((S, .row (segC D nm bv ev false)) :: L) → Xt (dkU D i ((S, .row (segC D nm bv ev false)) :: L)) w (dkU D i' ((S, .row (segC D nm bv ev false)) :: L)) w' → K (.int .i64 0) w') : Cl Try.prog hk 17 [.ptr S 0] w K := by
  apply in17 (hh.no _ _ _ (by decide) (by decide))
  unfold F17
  refine s39 (D := D) (br := false) hh (h.ow.ld 6 rfl rfl) (h.ow.ld 6 rfl rfl) ⟨0, rfl, ifT_f ?_⟩
  simp only [onP]
  refine onM_s (v := .ptr D 0) (h.ow.ld 6 rfl rfl) ⟨nm, h.ow.ld 6 rfl rfl, s44 hh h ?_⟩
  rw [hs]
  intro i' w' h' x'
  exact ⟨0, rfl, ifT_f (s43 hh (fun _ => ⟨0, rfl, hK i' w' h' x'⟩) fun h => absurd rfl h)⟩
set_option maxRecDepth 20000 in
theorem s3 {v v2 : AV} {secs : List Byts} {body : Byts} (hh : HK hk) (pv : Pv (fun _ => True) w) (h : (rL (rL rU)).rd (fun _ => True) w [v] secs) (hsl : ∀ s ∈ secs, s.length ≤ 140737488351232) (hsn : secs.length < 2 ^ 60) (hb : (rL rU).rd (fun _ => True) w [v2] body) : Cl Try.prog hk 3 [v, v2] w fun r _ => r = .bool true := by
  apply in3 (hh.no _ _ _ (by decide) (by decide))
  unfold F3
  have hn : named [115] = true := rfl
  refine s8 hh pv.st fun D i0 w3 h3 x3 => ?_
  refine join_of (fun lv w5 => lv = [] ∧ ∃ i' d' n, n ≤ 20 ∧ Dk (fun _ => True) [] w w5 D i' d' 40 [] ∧ Lp d' [115] n) ?_ ?_
  · rintro lv w5 ⟨rfl, i5, d5, n5, hn5, h5, hlp⟩
    refine ⟨rfl, fun _ => ?_⟩
    obtain ⟨hrl, d1, ho1, hs1⟩ := hlp.opened hn hn5
    generalize hfb : (d5.read [115]).1 = fb at *
    have hkt := ends_take (stream fb)
    have hkl := kept_le (fb := fb)
    have hst : (stream fb).length ≤ fb.length := streamN_length _ _
    have hEk : ends (kept fb) = ends (stream fb) := hkt.1
    have hEs : sizeE (ends (kept fb)) = (kept fb).length := by rw [hEk]; exact hkt.2.symm
    have hEs2 : sizeE (ends (stream fb)) = (kept fb).length := hkt.2.symm
    refine s11 hh h5 (by rw [hfb]; omega) (by decide) (fun hne => absurd (by rw [ho1]) hne) (fun _ S1 bv1 ev1 ef1 eo1 i8 w8 h8 x8 hbv1 hsv1 => ?_)
    rw [ho1] at h8
    rw [hfb] at hbv1 hsv1
    rw [← hEk] at hsv1
    generalize hB : kept fb = B at *
    generalize hE : ends B = E at *
    have hasc : Asc B E := by rw [← hE]; exact asc_ends B
    have hel : E.length ≤ 2000 := by
      have := (parse_le (B.length + 1) B 0 (Nat.zero_le _)).1
      have : (ends B).length ≤ B.length := this
      rw [hE] at this; omega
    refine ⟨_, _, rfl, ifT_f (s12 hh h8 hbv1 hsv1 hasc (by omega) fun r11 w12 f12 hg12 => ?_)⟩
    obtain ⟨h12, x12⟩ := h8.fr f12
    have hr12 := hg12.rd (by decide)
    have hbl : ∀ q, q < E.length → (bd B E q).length = E.getD q 0 - (stE E q + 4) := fun q hq => by
      have := (hasc q hq).2
      unfold bd; rw [List.length_drop, List.length_take]; omega
    have htl : (toldL B E).length = E.length := by simp [toldL]
    have hlen11 := hr12.len'
    rw [htl] at hlen11
    refine loopP_ind (fun m l w15 => ∃ q : Nat, m = E.length - q ∧ q ≤ E.length ∧ l = [.int .i64 (stE E q : Nat), .int .i64 q] ∧ w15 = w12) ?_ ⟨0, rfl, Nat.zero_le _, rfl, rfl⟩
    rintro m l w15 ⟨q, rfl, hq, rfl, rfl⟩ R ih
    refine ⟨_, _, rfl, fun _ => ⟨_, hlen11, ifT_d (fun hc => ?_) fun hc => ?_⟩⟩
    · have hql : q < E.length := by omega
      have hql2 : q < (toldL B E).length := by omega
      have hitem : (toldL B E)[q] = bd B E q := by simp [toldL]
      obtain ⟨a1, a2⟩ := hasc q hql
      have hb1 := hbl q hql
      have hst1 : stE E (q + 1) = E.getD q 0 := by unfold stE; rw [if_neg (by omega), Nat.add_sub_cancel]
      refine hr12.at1 rfl hql2 fun b o a hr hld => onM_s hld ⟨_, hr.len', ?_⟩
      refine (show ∀ {K : Int → Prop} {x : Int}, K x → be x K from fun h => h) ?_
      rw [hitem, hb1]
      refine ih (E.length - (q + 1)) (by omega) _ _ ⟨q + 1, rfl, hql, ?_, rfl⟩
      rw [hst1, wi_eq (x := ((stE E q : Nat) : Int) + _) (by omega) (by omega), wi_eq (by omega) (by omega), wi_eq (by omega) (by omega)]
      rw [show ((stE E q : Nat) : Int) + ((E.getD q 0 - (stE E q + 4) : Nat) : Int) + 4 = ((E.getD q 0 : Nat) : Int) by omega]
      rfl
    obtain rfl : q = E.length := by omega
    clear ih R
    obtain ⟨d2, ho2, hs2, hst2, hk2, hrl2⟩ := stt_open hn hs1 (by omega) (by rw [hE]; exact hEs)
    refine s11 hh h12 hrl2 (by decide) (fun hne => absurd (by rw [ho2]) hne) (fun _ S2 bv2 ev2 ef2 eo2 i25 w25 h25 x25 hbv2 hsv2 => ⟨_, _, rfl, ifT_f ?_⟩)
    rw [ho2] at h25
    rw [hk2] at hbv2
    rw [hst2, hE] at hsv2
    have hrs1 := h25.ow.sv (i := 9) (f := ef1) (o := eo1) rfl hsv1 (by decide) (k := E.length) (by rw [cst_length]; omega)
    refine s13 hh (h25.ow.ld 8 rfl rfl) hrs1 (by omega) ⟨_, rfl, ?_⟩
    rw [stE_last]
    refine ifT_nd (fun hne => absurd rfl hne) fun _ => s12 hh h25 hbv2 hsv2 hasc (by omega) fun r31 w32 f32 hg32 => ?_
    obtain ⟨h32, x32⟩ := h25.fr f32
    have hr11 := (hr12.x x25).x x32
    refine s14 hh (hg32.rd (by decide)) hr11 (by rw [htl]; omega) (by rw [htl]; omega) ⟨_, rfl, ?_⟩
    rw [show (toldL B E == toldL B E) = true by simp]
    have awake : ∀ {w : AW}, Cl Try.prog hk 15 [] w fun r w => ∃ x : Bool, r = .bool x ∧ (AV.bool x) = .bool true := fun {w} => Cl_hook (hh.awake _) ⟨_, rfl, rfl⟩
    refine ifT_f ⟨_, (h32.ow.arg pv.mem hb).len', ifT_d (fun _ => awake) fun hbl => ?_⟩
    have hbl : body.length ≤ 65536 := by omega
    have ecst : (E.map fun n : Nat => ((n : Nat) : Int)).map (AV.int .i64) = cst E := by simp [cst]
    obtain ⟨d3, ss3, hp3, hF3, hS3⟩ := stt_app (t := body) hn hs2 (by omega)
    refine s16 (body := body) (es := E.map fun n : Nat => ((n : Nat) : Int)) hh h32 (hbv2.x x32) (by rw [ecst]; exact hsv2) (fun w' _ _ _ hd _ => (hd.ow.arg pv.mem hb).rsB) hbl (by omega) (by simp; omega) (by decide) (fun _ i41 w41 bv3 ev3 ef3 eo3 h41 x41 _ _ => ⟨_, _, rfl, ?_⟩) (fun hne => absurd (by rw [hp3]) hne)
    rw [hp3] at h41
    obtain ⟨d4, hy4, hF4, hst4⟩ := hF3.sync
    refine s17 hh h41 hy4 fun i45 w45 h45 x45 => ⟨0, rfl, ?_⟩
    refine s18 (keep := []) hh h45 (by decide) (B := fun _ => True) Rp.rd.nil ?_
    intro i48 w48 h48 x48
    obtain ⟨hF5, _⟩ := hF4.crash hst4 []
    have hEe : ends (B ++ frame body) = E ++ [(B ++ frame body).length] := by rw [ends_app hbl (by rw [hE]; exact hEs), hE]
    have hBl : (B ++ frame body).length = B.length + (4 + body.length) := by rw [List.length_append, frame_length]
    obtain ⟨d6, ho6, _, hst6, hk6, hrl6⟩ := stt_open (B := B ++ frame body) hn (.inr ⟨ss3, hF5, hS3⟩) (by omega) (by rw [hEe]; unfold sizeE; simp)
    refine ⟨0, rfl, s11 hh h48 hrl6 (by decide) (fun hne => absurd (by rw [ho6]) hne) (fun _ S3 bv4 ev4 ef4 eo4 i51 w51 h51 x51 hbv4 hsv4 => ⟨_, _, rfl, ?_⟩)⟩
    rw [hk6] at hbv4
    rw [hst6, hEe] at hsv4
    rw [show wi (wi (0 + 0) + 0) = 0 from by decide]
    refine (show ∀ {K : Int → Prop} {x : Int}, K x → be x K from fun h => h) ?_
    rw [show wi (0 + 0) = 0 from by decide]
    refine ifT_t ⟨_, hlen11, ?_⟩
    refine ifT_d (fun _ => ?_) fun hne => absurd (by simp) hne
    have hasc6 : Asc (B ++ frame body) (E ++ [(B ++ frame body).length]) := by rw [← hEe]; exact asc_ends _
    refine s12 hh h51 hbv4 hsv4 hasc6 (by omega) fun r56 w57 f57 hg57 => ?_
    obtain ⟨h57, x57⟩ := h51.fr f57
    have hg11 := Ga.x' (Ga.x' (Ga.x' (Ga.x' (Ga.x' (Ga.x' (Ga.x' hg12 x25 h12.ow) x32 h25.ow) x41 h32.ow) x45 h41.ow) x48 h45.ow) x51 h48.ow) x57 h51.ow
    have hb57 := h57.ow.arg pv.mem hb
    refine gd_t hb57.ok1 (h57.new' fun b58 w59 h59 x59 => ?_)
    have hb58 : Box w59 b58 [v2] := (h59.ow.box (b58, .row [v2]) (nth_mem (i := 6) rfl) rfl).1
    have hg59 := (Ga.x' hg11 x59 h57.ow).xa (w1 := w) (by have := h8.ow.size; omega) fun _ h => h
    refine Ow.appSrc (r := rL rU) (l' := [body]) h59.ow hg59 (Rs.src (hb58.rs rfl)) (Chk.one (hb57.x x59)) (by decide) (fun _ _ => trivial) (by rw [htl]; simp; omega) (by rw [htl]; simp; omega) fun v60 w61 st61 x61 hg61 => ?_
    have hr56 := ((hg57.rd (by decide)).x x59).y x61
    refine s14 hh hr56 (hg61.rd (by decide)) (by simp [toldL]; omega) (by rw [List.length_append, htl]; simp; omega) ⟨_, rfl, ?_⟩
    have htold : toldL (B ++ frame body) (E ++ [(B ++ frame body).length]) = toldL B E ++ [body] := told_app (by rw [← hE]; rw [hE]; exact hEs) hasc
    rw [htold, show (toldL B E ++ [body] == toldL B E ++ [body]) = true by simp]
    exact ifT_t awake
  · intro J hJ
    refine loopP_ind (fun m l w70 => ∃ (n : Nat) (i' : DI) (d' : Dsk), m = 20 - n ∧ n ≤ 20 ∧ l = [.int .i64 n] ∧ Dk (fun _ => True) [] w w70 D i' d' (2 * n) [] ∧ Lp d' [115] n) ?_ ⟨0, i0, Dsk.none, rfl, Nat.zero_le _, rfl, h3, .inl ⟨rfl, rfl⟩⟩
    rintro m l w70 ⟨n, i7, d7, rfl, hn20, rfl, h7, hlp⟩ R ih
    have done : J [] w70 := hJ _ _ ⟨rfl, i7, d7, n, hn20, h7.le (by omega) (by decide), hlp⟩
    have ha := h7.ow.arg pv.mem h
    refine ⟨_, rfl, fun _ => ⟨_, ha.len', ifT_d (fun hc => ifT_d (fun hc2 => ?_) fun _ => done) fun _ => done⟩⟩
    have hnl : n < secs.length := by omega
    have hs := hsl secs[n] (List.getElem_mem hnl)
    refine ha.at1 rfl hnl fun b o a hr hld => onM_s hld (s10 hh h7.ow.P hr.rsB (by omega) fun vin w77 f77 hin => ?_)
    have st77 := (h7.ow.P.st.call f77).1
    have hg77 : Ga rU (fz (fz (fun _ => True) (ids (dkL D i7 d7 []))) []) w70 w77 vin secs[n] := by
      rcases hin with ⟨e, rfl⟩ | ⟨bx, rfl⟩
      · rw [e]; exact Ga.nil
      · exact (boxGa bx rfl (Nat.le_refl _) (h7.ow.P.new _ (Nat.le_refl _)) (by have := h7.ow.P.pos; omega)).inn
    rw [show (AV.int .i64 64) = .int .i64 ((64 : Nat) : Int) from rfl, appendA_eq (by decide)]
    have hz := Bhd.str w77 (List.replicate 64 0)
    refine Ow.appSrc (r := rU) (l' := List.replicate 64 0) st77 hg77 hz (Chk.bytes.2 rfl) (by decide) (fun c hc => h7.ow.P.new c (by have := st77.size; omega)) (by simp; omega) (by simp; omega) fun v78 w79 st79 x79 hg79 => ?_
    obtain ⟨v80, hcut, hr80⟩ := (hg79.rd (by decide)).cut (i := 0) (j := 64) (Nat.zero_le _) (by simp) (.inr ⟨rfl, rfl⟩) (.inl rfl)
    refine onM_s hcut ?_
    obtain ⟨h79, _⟩ := h7.fr st79.fr
    have hd64 : (((secs[n] ++ List.replicate 64 0).take 64).drop 0).length = 64 := by simp
    obtain ⟨d8, hp, hlp8⟩ := hlp.put hn hd64 (by omega)
    refine s9 hh h79 (by omega) hr80.rsB ?_
    rw [hp]
    intro i8 w82 h82 _
    refine ⟨0, rfl, ifT_f (ih (20 - (n + 1)) (by omega) _ _ ⟨n + 1, i8, d8, rfl, by omega, by rw [wi_eq (by omega) (by omega)]; rfl, h82, hlp8⟩)⟩
end
end Go.Proofs.Ytdlogcincelccaa
