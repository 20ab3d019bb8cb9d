/-
 A call on both disks,over memory.
 No condition beyond those that each theorem names.
-/
import Derived.Test.YtbjeebgdjlemjaaMe
set_option linter.unusedSimpArgs false
open Go.Sx
set_option linter.unusedVariables false
set_option linter.unusedSimpArgs false
namespace Go.Proofs.Ytbjeebgdjlemjaa
structure OpF where
 kind : Int
 on : Int
 name : Byts
 to : Byts
 n : Int
 e : Int
 b : UInt8
 size : Int
 keep : List Bool
abbrev opC (o : OpF) (v : AV) : List AV := [.int .i64 o.kind,.int .i64 o.on,.str o.name,.str o.to,.int .i64 o.n,.int .i64 o.e,.int .u8 o.b.toNat,.int .i64 o.size,v]
def rOpF : Rp OpF := ⟨9,fun A w cs x => ∃ v,cs = opC x v ∧ (rL rT).rd A w [v] x.keep,fun ⟨v,h,_⟩ => by rw [h]; rfl,fun ⟨v,h,h2⟩ => by
 rw [h]
 have := h2.ok1
 simp only [List.all_cons,this]; rfl,fun e ⟨v,h,h2⟩ => ⟨v,h,h2.xa e⟩⟩
section
variable {hk : Hook} {A B : Nat → Prop} {I : List Nat} {w0 w w' : AW} {D : Nat} {i i' : DI} {d d' : Dsk} {k k' : Nat} {L L' : Obs} {K : AV → AW → Prop} {a b c v : AV} {r : RDk} {b32 b22 b20 b18 : Nat} {c1 c2 c3 c4 : List AV} {e e' : Int}
theorem Dk.drop4 {p1 p2 p3 p4 : Nat × List AV} (h : Dk A I w0 w D i d k ((p1.1,.row p1.2) :: (p2.1,.row p2.2) :: (p3.1,.row p3.2) :: (p4.1,.row p4.2) :: L)) : Dk A I w0 w D i d k L ∧ Xt (dkU D i ((p1.1,.row p1.2) :: (p2.1,.row p2.2) :: (p3.1,.row p3.2) :: (p4.1,.row p4.2) :: L)) w (dkU D i L) w := by
 obtain ⟨h1,x1,_⟩ := h.drop
 obtain ⟨h2,x2,_⟩ := h1.drop
 obtain ⟨h3,x3,_⟩ := h2.drop
 obtain ⟨h4,x4,_⟩ := h3.drop
 exact ⟨h4,((x1.trans x2).trans x3).trans x4⟩
theorem fin36b (h : Dk A I w0 w D i d k ((b32,.row (rC r a b c)) :: (b22,.row c2) :: (b20,.row c3) :: (b18,.row c4) :: L)) (l2 : c2.length = 8) (dr : DR (fz A (dkU D i ((b32,.row (rC r a b c)) :: (b22,.row c2) :: (b20,.row c3) :: (b18,.row c4) :: L))) w a b c r) (he : e = e')
  (hK : ∀ w2,Dk A I w0 w2 D i d k L → Xt (dkU D i ((b32,.row (rC r a b c)) :: (b22,.row c2) :: (b20,.row c3) :: (b18,.row c4) :: L)) w (dkU D i L) w2 → DR (fz A (dkU D i L)) w2 a b c r → K (.tup [.agg (rC r a b c),.bool true]) w2) :
  ∃ x0 x1 x2 : AV,∃ x3 : Int,∃ x4 : Bool,∃ x5 x6 x7 : Int,ldN 8 w b32 0 = some (.agg [x0,x1,x2,.int .i64 x3,.bool x4,.int .i64 x5,.int .i64 x6,.int .i64 x7]) ∧
  gd ([x0,x1,x2,.int .i64 x3,.bool x4,.int .i64 x5,.int .i64 x6,.int .i64 x7].all okCell) (onM (AW.putCells w b22 0 [x0,x1,x2,.int .i64 x3,.bool x4,.int .i64 x5,.int .i64 x6,.int .i64 x7]) fun w' => ∃ r0 r1 r2 : AV,∃ r3 : Int,∃ r4 : Bool,∃ r5 r6 r7 : Int,ldN 8 w' b22 0 = some (.agg [r0,r1,r2,.int .i64 r3,.bool r4,.int .i64 r5,.int .i64 r6,.int .i64 r7]) ∧ K (.tup [.agg [r0,r1,r2,.int .i64 r3,.bool r4,.int .i64 r5,.int .i64 r6,.int .i64 r7],.bool (decide (e = e'))]) w') := by
 rw [decide_eq_true he]
 refine ⟨_,_,_,_,_,_,_,_,h.ow.ldN 6 rfl rfl rfl,gd_t dr.ok (h.wr 1 rfl (by rw [l2]; exact Nat.le_refl 8) fun w87 h87 x87 => ?_)⟩
 rw [listPut_all (by rw [l2]; rfl)] at h87 x87
 have h87 : Dk A I w0 w87 D i d k ((b32,.row (rC r a b c)) :: (b22,.row (rC r a b c)) :: (b20,.row c3) :: (b18,.row c4) :: L) := h87
 obtain ⟨h88,x88⟩ := Dk.drop4 (p1 := (b32,rC r a b c)) (p2 := (b22,rC r a b c)) (p3 := (b20,c3)) (p4 := (b18,c4)) h87
 have xx : Xt (dkU D i ((b32,.row (rC r a b c)) :: (b22,.row c2) :: (b20,.row c3) :: (b18,.row c4) :: L)) w (dkU D i L) w87 := Xt.trans x87 x88
 exact ⟨_,_,_,_,_,_,_,_,h87.ow.ldN 7 rfl rfl rfl,hK w87 h88 xx (dr.x xx)⟩
theorem fin36 (h : Dk A I w0 w D i d k ((b32,.row c1) :: (b22,.row c2) :: (b20,.row c3) :: (b18,.row c4) :: L)) (l1 : c1.length = 8) (l2 : c2.length = 8) (f : Fr w.size w w') (dr : DR (fz A (dkU D i ((b32,.row c1) :: (b22,.row c2) :: (b20,.row c3) :: (b18,.row c4) :: L))) w' a b c r) (he : e = e')
  (hK : ∀ w2,Dk A I w0 w2 D i d k L → Xt (dkU D i ((b32,.row c1) :: (b22,.row c2) :: (b20,.row c3) :: (b18,.row c4) :: L)) w (dkU D i L) w2 → DR (fz A (dkU D i L)) w2 a b c r → K (.tup [.agg (rC r a b c),.bool true]) w2) :
  gd ((rC r a b c).all okCell) (onM (AW.putCells w' b32 0 (rC r a b c)) fun w => ∃ x0 x1 x2 : AV,∃ x3 : Int,∃ x4 : Bool,∃ x5 x6 x7 : Int,ldN 8 w b32 0 = some (.agg [x0,x1,x2,.int .i64 x3,.bool x4,.int .i64 x5,.int .i64 x6,.int .i64 x7]) ∧
  gd ([x0,x1,x2,.int .i64 x3,.bool x4,.int .i64 x5,.int .i64 x6,.int .i64 x7].all okCell) (onM (AW.putCells w b22 0 [x0,x1,x2,.int .i64 x3,.bool x4,.int .i64 x5,.int .i64 x6,.int .i64 x7]) fun w' => ∃ r0 r1 r2 : AV,∃ r3 : Int,∃ r4 : Bool,∃ r5 r6 r7 : Int,ldN 8 w' b22 0 = some (.agg [r0,r1,r2,.int .i64 r3,.bool r4,.int .i64 r5,.int .i64 r6,.int .i64 r7]) ∧ K (.tup [.agg [r0,r1,r2,.int .i64 r3,.bool r4,.int .i64 r5,.int .i64 r6,.int .i64 r7],.bool (decide (e = e'))]) w')) := by
 obtain ⟨h1,x1⟩ := h.fr f
 refine gd_t dr.ok (h1.wr 0 rfl (by rw [l1]; exact Nat.le_refl 8) fun w70 h70 x70 => ?_)
 rw [listPut_all (by rw [l1]; rfl)] at h70 x70
 have h70 : Dk A I w0 w70 D i d k ((b32,.row (rC r a b c)) :: (b22,.row c2) :: (b20,.row c3) :: (b18,.row c4) :: L) := h70
 exact fin36b h70 l2 (dr.x x70) he fun w2 g1 g2 g3 => hK w2 g1 (Xt.trans (Xt.trans x1 x70) g2) g3
theorem flat64 : ∀ {l : List Byts}, (∀ t ∈ l, t.length = 64) → l.flatten.length = l.length * 64
  | [], _ => rfl
  | x :: l, h => by
    rw [List.flatten_cons, List.length_append, flat64 fun t ht => h t (List.mem_cons_of_mem _ ht), h x List.mem_cons_self, List.length_cons]
    omega
theorem fin36r (h : Dk A I w0 w D i d k ((b32,.row c1) :: (b22,.row c2) :: (b20,.row c3) :: (b18,.row (rC r a b c)) :: L)) (l2 : c2.length = 8) (dr : DR (fz A (dkU D i ((b32,.row c1) :: (b22,.row c2) :: (b20,.row c3) :: (b18,.row (rC r a b c)) :: L))) w a b c r)
  (hK : ∀ w2,Dk A I w0 w2 D i d k L → Xt (dkU D i ((b32,.row c1) :: (b22,.row c2) :: (b20,.row c3) :: (b18,.row (rC r a b c)) :: L)) w (dkU D i L) w2 → DR (fz A (dkU D i L)) w2 a b c r → K (.tup [.agg (rC r a b c),.bool true]) w2) :
  gd ((rC r a b c).all okCell) (onM (AW.putCells w b22 0 (rC r a b c)) fun w' => ∃ r0 r1 r2 : AV,∃ r3 : Int,∃ r4 : Bool,∃ r5 r6 r7 : Int,ldN 8 w' b22 0 = some (.agg [r0,r1,r2,.int .i64 r3,.bool r4,.int .i64 r5,.int .i64 r6,.int .i64 r7]) ∧ K (.tup [.agg [r0,r1,r2,.int .i64 r3,.bool r4,.int .i64 r5,.int .i64 r6,.int .i64 r7],.bool true]) w') := by
 refine gd_t dr.ok (h.wr 1 rfl (by rw [l2]; exact Nat.le_refl 8) fun w87 h87 x87 => ?_)
 rw [listPut_all (by rw [l2]; rfl)] at h87 x87
 have h87 : Dk A I w0 w87 D i d k ((b32,.row c1) :: (b22,.row (rC r a b c)) :: (b20,.row c3) :: (b18,.row (rC r a b c)) :: L) := h87
 obtain ⟨h88,x88⟩ := Dk.drop4 (p1 := (b32,c1)) (p2 := (b22,rC r a b c)) (p3 := (b20,c3)) (p4 := (b18,rC r a b c)) h87
 have xx : Xt (dkU D i ((b32,.row c1) :: (b22,.row c2) :: (b20,.row c3) :: (b18,.row (rC r a b c)) :: L)) w (dkU D i L) w87 := Xt.trans x87 x88
 exact ⟨_,_,_,_,_,_,_,_,h87.ow.ldN 7 rfl rfl rfl,hK w87 h88 xx (dr.x xx)⟩
set_option maxHeartbeats 1000000 in
set_option maxRecDepth 20000 in
theorem s36 {o : OpF} {kv : AV} (hh : HK hk) (h : Dk A I w0 w D i d k L) (hkk : k < 900) (dr : DR (fz A (dkU D i L)) w a b c r) (pr : PR k d r) (hkv : (rL rT).rd (fz A (dkU D i L)) w [kv] o.keep) (hkl : o.keep.length < 2 ^ 62) (hn : o.n < 2 ^ 63)
  (hK : ∀ i' d' r' a' b' c' w',Dk A I w0 w' D i' d' (k + 2) L → Xt (dkU D i L) w (dkU D i' L) w' → DR (fz A (dkU D i' L)) w' a' b' c' r' → PR (k + 2) d' r' → K (.tup [.agg (rC r' a' b' c'),.bool true]) w') :
  Cl Try.prog hk 36 [.ptr D 0,.agg (rC r a b c),.agg (opC o kv)] w K := by
 refine in36 (hh.no _ _ _ (by decide) (by decide)) ?_
 unfold F36
 have oko : (opC o kv).all okCell = true := by
  have := hkv.ok1
  simp only [List.all_cons,this]; rfl
 refine gd_t dr.ok (h.new' fun b18 w19 h19 x19 => gd_t oko (h19.new' fun b20 w21 h21 x21 => h21.new' fun b22 w23 h23 x23 => ⟨_,_,_,_,_,_,_,_,h23.ow.ldN 8 rfl rfl rfl,h23.new' fun b32 w33 h33 x33 => gd_t dr.ok (h33.wr 0 rfl (Nat.le_of_ble_eq_true rfl) fun w34 h34 x34 => ?_)⟩))
 have h34 : Dk A I w0 w34 D i d k ((b32,.row (rC r a b c)) :: (b22,.row z8) :: (b20,.row (opC o kv)) :: (b18,.row (rC r a b c)) :: L) := h34
 have x34 : Xt (dkU D i L) w (dkU D i ((b32,.row (rC r a b c)) :: (b22,.row z8) :: (b20,.row (opC o kv)) :: (b18,.row (rC r a b c)) :: L)) w34 := Xt.trans x19 (Xt.trans x21 (Xt.trans x23 (Xt.trans x33 x34)))
 clear h19 h21 h23 h33 x19 x21 x23 x33
 have dr34 := dr.x x34
 have hkv34 := hkv.x x34
 obtain ⟨nd,db⟩ := pr.db h.V (by omega)
 have bnd : k + 2 < 2 ^ 27 := by omega
 refine ⟨_,h34.ow.ld 8 rfl rfl,ifT_d (fun _ => ?_) fun _ => ifT_d (fun _ => ?_) fun _ => ifT_d (fun _ => ?_) fun _ => ifT_d (fun _ => ?_) fun _ => ifT_d (fun _ => ?_) fun _ => ifT_d (fun _ => ?_) fun _ => ifT_d (fun _ => ?_) fun _ => ifT_d (fun _ => ?_) fun _ => ifT_d (fun _ => ?_) fun _ => ifT_d (fun _ => ?_) fun _ => ?_⟩
 ·-- Put
  have last0 : 0 ≤ r.last ∧ r.last < 2 ^ 40 := by
   have := h.V.last
   rw [pr.rr.last]; omega
  refine ⟨_,h34.ow.ld 8 rfl rfl,_,h34.ow.ld 8 rfl rfl,s12g hh h34.ow.mem h34.ow.P0.pos fun n w39 hn2 f39 b39 en => ?_⟩
  obtain ⟨p1,p2⟩ := pr.put (by omega) o.name o.n (List.replicate n o.b)
  obtain ⟨h39,x39⟩ := h34.push f39 b39 (Nat.le_refl _)
  refine ⟨_,h39.ow.ld 9 rfl rfl,_,h39.ow.ld 9 rfl rfl,s11 hh h39 bnd (boxBn b39 (by simp)) fun i43 w43 h43 x43 => ?_⟩
  refine ⟨_,rfl,_,_,_,_,_,_,_,_,h43.ow.ldN 10 rfl rfl rfl,_,h43.ow.ld 9 rfl rfl,_,h43.ow.ld 9 rfl rfl,_,h43.ow.ld 9 rfl rfl,_,h43.ow.ld 9 rfl rfl,?_⟩
  refine s12g hh h43.ow.mem h43.ow.P0.pos fun n2 w58 _ f58 b58 en2 => ?_
  have e2 : n2 = n := by rw [en,en2]
  subst e2
  obtain ⟨h58,x58⟩ := h43.fr f58
  have hnew := h43.ow.P.new w43.size (Nat.le_refl _)
  refine ⟨h58.ow.ld 9 rfl rfl,h58.ow.ld 9 rfl rfl,h58.ow.ldN 10 rfl rfl rfl,s57 hh h58.ow.P (((dr34.x x39).x x43).x x58) db last0 (Box.sl (r := rU) b58 hnew (by simp) (Chk.bytes.2 rfl)) (by simp; omega) fun a' b' c' w60 f60 dr60 => ⟨_,_,_,_,_,_,_,_,_,rfl,?_⟩⟩
  obtain ⟨h60,x60⟩ := h58.fr f60
  refine gd_t dr60.ok (h60.wr 1 rfl (Nat.le_of_ble_eq_true rfl) fun w70 h70 x70 => ?_)
  have h70 : Dk A I w0 w70 D i43 (d.put o.name o.n (List.replicate n2 o.b)).1 (k + 2) ((w34.size,.row (cellsOfBytes (List.replicate n2 o.b))) :: (b32,.row (rC (r.put o.name o.n (List.replicate n2 o.b)).1 a' b' c')) :: (b22,.row z8) :: (b20,.row (opC o kv)) :: (b18,.row (rC r a b c)) :: L) := h70
  have dr70 := dr60.x x70
  have x70 := x34.trans (x39.trans (x43.trans (x58.trans (x60.trans x70))))
  refine loopP_ind (fun m lv w73 => ∃ (j : Nat) (cs : List AV),j ≤ n2 ∧ m = n2 - j ∧ lv = [.int .i64 j] ∧ cs.length = n2 ∧ Dk A I w0 w73 D i43 (d.put o.name o.n (List.replicate n2 o.b)).1 (k + 2) ((w34.size,.row cs) :: (b32,.row (rC (r.put o.name o.n (List.replicate n2 o.b)).1 a' b' c')) :: (b22,.row z8) :: (b20,.row (opC o kv)) :: (b18,.row (rC r a b c)) :: L) ∧
   Xt (dkU D i43 ((w34.size,.row cs) :: (b32,.row (rC (r.put o.name o.n (List.replicate n2 o.b)).1 a' b' c')) :: (b22,.row z8) :: (b20,.row (opC o kv)) :: (b18,.row (rC r a b c)) :: L)) w70 (dkU D i43 ((w34.size,.row cs) :: (b32,.row (rC (r.put o.name o.n (List.replicate n2 o.b)).1 a' b' c')) :: (b22,.row z8) :: (b20,.row (opC o kv)) :: (b18,.row (rC r a b c)) :: L)) w73) ?_ ⟨0,cellsOfBytes (List.replicate n2 o.b),Nat.zero_le _,rfl,rfl,by rw [cellsOfBytes_length]; simp,h70,Xt.refl⟩
  rintro m lv w73 ⟨j,cs,hj,rfl,rfl,hcl,h73,x73⟩ R ih
  refine ⟨_,rfl,fun _ => ⟨_,rfl,ifT_d (fun hc => ?_) fun hc => ?_⟩⟩
  ·have hjn : j < n2 := by
    have hc : (j : Int) < ((n2 : Nat) : Int) := hc
    omega
   refine idx0 hjn (h73.wr 0 rfl (by show j + 1 ≤ cs.length; omega) fun w78 h78 x78 => ?_)
   exact ih (n2 - (j + 1)) (by omega) _ _ ⟨j + 1,_,by omega,rfl,by rw [wi_eq (by omega) (by omega)]; rfl,by simp [listPut]; omega,h78,Xt.trans x73 x78⟩
  ·clear ih
   obtain ⟨h74,x74,_⟩ := h73.drop
   have y74 := Xt.trans x73 x74
   exact fin36b h74 rfl (dr70.x y74) p2.symm fun w2 g1 g2 g3 => hK _ _ _ _ _ _ w2 g1 (x70.trans (y74.trans g2)) g3 p1
 ·-- Cut
  obtain ⟨p1,p2⟩ := pr.cut (by omega) o.name o.n
  refine ⟨_,h34.ow.ld 8 rfl rfl,_,h34.ow.ld 8 rfl rfl,s30 hh h34 (by omega) fun i98 w99 h99 x99 => ⟨_,rfl,_,_,_,_,_,_,_,_,h99.ow.ldN 9 rfl rfl rfl,_,h99.ow.ld 8 rfl rfl,_,h99.ow.ld 8 rfl rfl,?_⟩⟩
  refine s58 hh h99.ow.P (dr34.x x99) db fun a' b' c' w112 f112 dr' => ⟨_,_,_,_,_,_,_,_,_,rfl,?_⟩
  exact fin36 (h99.le (by omega) bnd) rfl rfl f112 dr' p2.symm fun w2 g1 g2 g3 => hK _ _ _ _ _ _ w2 g1 (x34.trans (x99.trans g2)) g3 p1
 ·-- Rename
  obtain ⟨p1,p2⟩ := pr.rename (by omega) o.name o.to
  refine ⟨_,h34.ow.ld 8 rfl rfl,_,h34.ow.ld 8 rfl rfl,s15 hh h34 (by omega) fun i98 w99 h99 x99 => ⟨_,rfl,_,_,_,_,_,_,_,_,h99.ow.ldN 9 rfl rfl rfl,_,h99.ow.ld 8 rfl rfl,_,h99.ow.ld 8 rfl rfl,?_⟩⟩
  refine s59 hh h99.ow.P (dr34.x x99) db fun a' b' c' w112 f112 dr' => ⟨_,_,_,_,_,_,_,_,_,rfl,?_⟩
  exact fin36 (h99.le (by omega) bnd) rfl rfl f112 dr' p2.symm fun w2 g1 g2 g3 => hK _ _ _ _ _ _ w2 g1 (x34.trans (x99.trans g2)) g3 p1
 ·-- Remove
  obtain ⟨p1,p2⟩ := pr.remove (by omega) o.name
  refine ⟨_,h34.ow.ld 8 rfl rfl,s31 hh h34 (by omega) fun i98 w99 h99 x99 => ⟨_,rfl,_,_,_,_,_,_,_,_,h99.ow.ldN 9 rfl rfl rfl,_,h99.ow.ld 8 rfl rfl,?_⟩⟩
  refine s60 hh h99.ow.P (dr34.x x99) db fun a' b' c' w112 f112 dr' => ⟨_,_,_,_,_,_,_,_,_,rfl,?_⟩
  exact fin36 (h99.le (by omega) bnd) rfl rfl f112 dr' p2.symm fun w2 g1 g2 g3 => hK _ _ _ _ _ _ w2 g1 (x34.trans (x99.trans g2)) g3 p1
 ·-- Sync
  obtain ⟨p1,p2⟩ := pr.sync h.V (by omega) o.name
  refine ⟨_,h34.ow.ld 8 rfl rfl,s13 hh h34 fun i98 w99 h99 x99 => ⟨_,rfl,_,_,_,_,_,_,_,_,h99.ow.ldN 9 rfl rfl rfl,_,h99.ow.ld 8 rfl rfl,?_⟩⟩
  refine s61 hh h99.ow.P (dr34.x x99) db fun a' b' c' w112 f112 dr' => ⟨_,_,_,_,_,_,_,_,_,rfl,?_⟩
  exact fin36 (h99.le (by omega) bnd) rfl rfl f112 dr' p2.symm fun w2 g1 g2 g3 => hK _ _ _ _ _ _ w2 g1 (x34.trans (x99.trans g2)) g3 p1
 ·-- SyncNames
  obtain ⟨p1,p2⟩ := pr.syncNames h.V (by omega)
  refine s16 hh h34 fun i98 w99 h99 x99 => ⟨_,rfl,_,_,_,_,_,_,_,_,h99.ow.ldN 9 rfl rfl rfl,?_⟩
  refine s62 hh h99.ow.P (dr34.x x99) db fun a' b' c' w112 f112 dr' => ⟨_,_,_,_,_,_,_,_,_,rfl,?_⟩
  exact fin36 (h99.le (by omega) bnd) rfl rfl f112 dr' p2.symm fun w2 g1 g2 g3 => hK _ _ _ _ _ _ w2 g1 (x34.trans (x99.trans g2)) g3 p1
 ·-- Read
  have hrd := pr.rr.read o.name
  refine ⟨_,h34.ow.ld 8 rfl rfl,s18 hh h34 fun v w310 f310 g310 => ?_⟩
  obtain ⟨h310,x310⟩ := h34.fr f310
  have v310 := g310.rd (by decide)
  refine ⟨_,_,rfl,_,_,_,_,_,_,_,_,h310.ow.ldN 9 rfl rfl rfl,_,h310.ow.ld 8 rfl rfl,s63 hh h310.ow.P (dr34.x x310) db (fun f => ?_) fun u w323 f323 u323 => ?_⟩
  ·rw [pr.rr.sec,flat64 (h.V.now f).2]
   have := (h.V.now f).1
   omega
  obtain ⟨h323,x323⟩ := h310.fr f323
  refine ⟨_,_,rfl,_,_,_,_,_,_,_,_,h323.ow.ldN 9 rfl rfl rfl,ifT_d (fun _ => ?_) fun hne => absurd (by rw [hrd]) hne⟩
  refine s19 hh (v310.x x323).rsB u323.rsB ?_
  rw [hrd,beq_self_eq_true]
  refine ⟨_,rfl,h323.ow.ldN 9 rfl rfl rfl,fin36r (h323.le (by omega) bnd) rfl ((dr34.x x310).x x323) fun w2 g1 g2 g3 => hK _ _ _ _ _ _ w2 g1 (x34.trans (x310.trans (x323.trans g2))) g3 (pr.le (by omega))⟩
 ·-- Arm
  obtain ⟨p1,p2⟩ := pr.armed hn
  refine ⟨_,h34.ow.ld 8 rfl rfl,s32 hh h34 fun i98 w99 h99 x99 => ⟨_,rfl,_,_,_,_,_,_,_,_,h99.ow.ldN 9 rfl rfl rfl,_,h99.ow.ld 8 rfl rfl,?_⟩⟩
  refine s64 hh h99.ow.P (dr34.x x99) fun a' b' c' w112 f112 dr' => ⟨_,_,_,_,_,_,_,_,_,rfl,?_⟩
  exact fin36 (h99.le (by omega) bnd) rfl rfl f112 dr' p2.symm fun w2 g1 g2 g3 => hK _ _ _ _ _ _ w2 g1 (x34.trans (x99.trans g2)) g3 p1
 ·-- Fail
  obtain ⟨p1,p2⟩ := pr.failing (e := o.e) hn
  refine ⟨_,h34.ow.ld 8 rfl rfl,_,h34.ow.ld 8 rfl rfl,s33 hh h34 fun i98 w99 h99 x99 => ⟨_,rfl,_,_,_,_,_,_,_,_,h99.ow.ldN 9 rfl rfl rfl,_,h99.ow.ld 8 rfl rfl,_,h99.ow.ld 8 rfl rfl,?_⟩⟩
  refine s65 hh h99.ow.P (dr34.x x99) fun a' b' c' w112 f112 dr' => ⟨_,_,_,_,_,_,_,_,_,rfl,?_⟩
  exact fin36 (h99.le (by omega) bnd) rfl rfl f112 dr' p2.symm fun w2 g1 g2 g3 => hK _ _ _ _ _ _ w2 g1 (x34.trans (x99.trans g2)) g3 p1
 ·-- Crash
  have p1 := pr.crash h.V o.keep
  refine onM_s (h34.ow.ld 8 rfl rfl) (s17 hh h34 hkl hkv34 fun i98 w99 h99 x99 => ⟨_,rfl,_,_,_,_,_,_,_,_,h99.ow.ldN 9 rfl rfl rfl,onM_s (h99.ow.ld 8 rfl rfl) ?_⟩)
  refine s38 hh h99.ow.P (dr34.x x99) db (hkv34.x x99) fun a' b' c' w112 f112 dr' => ⟨_,_,_,_,_,_,_,_,rfl,?_⟩
  exact fin36 (e := 0) (e' := 0) (h99.le (by omega) bnd) rfl rfl f112 dr' rfl fun w2 g1 g2 g3 => hK _ _ _ _ _ _ w2 g1 (x34.trans (x99.trans g2)) g3 p1
 ·exact fin36b (e := 0) (e' := 0) (h34.le (by omega) bnd) rfl dr34 rfl fun w2 g1 g2 g3 => hK _ _ _ _ _ _ w2 g1 (x34.trans g2) g3 (pr.le (by omega))
end
end Go.Proofs.Ytbjeebgdjlemjaa
/-
 What both disks tell is the same,over memory.
 No condition beyond those that each theorem names.
-/
set_option linter.unusedSimpArgs false
open Go.Sx
set_option linter.unusedVariables false
set_option linter.unusedSimpArgs false
namespace Go.Proofs.Ytbjeebgdjlemjaa
section
variable {hk : Hook} {A B : Nat → Prop} {I : List Nat} {w0 w w' : AW} {D : Nat} {i i' : DI} {d d' : Dsk} {k k' : Nat} {L L' : Obs} {K : AV → AW → Prop} {a b c v v' : AV} {r : RDk}
theorem s29 {l : List Byts} (hh : HK hk) (h : (rL rS).rd A w [v] l) (h' : (rL rS).rd B w [v'] l) (hl : l.length < 2 ^ 40) (hK : K (.bool true) w) : Cl Try.prog hk 29 [v,v'] w K := by
 apply in29 (hh.no _ _ _ (by decide) (by decide))
 unfold F29
 refine ⟨_,h.len',_,h'.len',ifT_nd (fun hne => absurd rfl hne) fun _ => ?_⟩
 refine loopP_ind (fun m lv w6 => ∃ i : Nat,w = w6 ∧ i ≤ l.length ∧ m = l.length - i ∧ lv = [.int .i64 i]) ?_ ⟨0,rfl,Nat.zero_le _,rfl,rfl⟩
 rintro m lv w6 ⟨i,rfl,hi,rfl,rfl⟩ R ih
 refine ⟨_,rfl,fun _ => ⟨_,h.len',ifT_d (fun hc => ?_) fun hc => hK⟩⟩
 have hil : i < l.length := by omega
 refine h.at1 rfl hil fun b o u hu ho => ?_
 have hu : [u] = [AV.str l[i]] := hu
 cases hu
 refine ⟨_,ho,h'.at1 rfl hil fun b2 o2 u2 hu2 ho2 => ?_⟩
 have hu2 : [u2] = [AV.str l[i]] := hu2
 cases hu2
 refine ⟨_,ho2,?_⟩
 rw [beq_self_eq_true]
 exact ifT_f (ih (l.length - (i + 1)) (by omega) _ _ ⟨i + 1,rfl,hil,rfl,by rw [wi_eq (by omega) (by omega)]; rfl⟩)
theorem names_ok (pr : PR k d r) (hv : d.V k') : (∀ u ∈ d.now.names,u.1.length ≤ 65536) ∧ d.now.names.length ≤ k ∧ r.names = namesOf d := by
 refine ⟨fun u hu => ?_,?_,pr.rr.names⟩
 ·have := (pr.rr.nowff.2.2.1 u.1 u.2 (nget_of_mem pr.rr.kn hu)).1
  unfold named at this
  have := of_decide_eq_true this
  omega
 ·rw [← pr.rr.len]
  obtain ⟨n,h1,h2⟩ := pr.pb.ex
  have := (RBd.fold (l := r.steps) h1 (pr.sv hv)).nm
  have e : r.now = r.steps.foldl RSt.does r.safe := rfl
  rw [e]; omega
theorem s37 (hh : HK hk) (h : Dk A I w0 w D i d k L) (hkk : k < 900) (dr : DR (fz A (dkU D i L)) w a b c r) (pr : PR k d r)
  (hK : ∀ w',Dk A I w0 w' D i d k L → Xt (dkU D i L) w (dkU D i L) w' → K (.bool true) w') : Cl Try.prog hk 37 [.ptr D 0,.agg (rC r a b c)] w K := by
 refine in37 (hh.no _ _ _ (by decide) (by decide)) ?_
 unfold F37
 obtain ⟨hn1,hn2,hn3⟩ := names_ok pr h.V
 obtain ⟨nd,db⟩ := pr.db h.V (by omega)
 have hst : r.steps.length = d.steps.length := by rw [pr.rr.st]
 refine gd_t dr.ok (h.new' fun b9 w10 h10 x10 => ⟨_,_,_,_,_,_,_,_,h10.ow.ldN 6 rfl rfl rfl,?_⟩)
 have dr10 := dr.x x10
 refine s66 hh h10.ow.P dr10 db fun v19 w20 f20 hv19 => ?_
 obtain ⟨h20,x20⟩ := h10.fr f20
 rw [hn3] at hv19
 have hln : (namesOf d).length ≤ k := by unfold namesOf; rw [isort_length,List.length_map]; exact hn2
 refine s24 hh h20 hn1 (by omega) fun v21 w22 f22 hv21 _ => ?_
 obtain ⟨h22,x22⟩ := h20.fr f22
 have hv22 := hv19.x x22
 refine s29 hh hv21 hv22 (by omega) ⟨_,rfl,ifT_f (onM_s (h22.ow.ld 6 rfl rfl) ⟨_,((dr10.x x20).x x22).st.len',s28 hh h22 ⟨_,rfl,h22.ow.ld 6 rfl rfl,ifT_nd (fun hne => absurd (by rw [hst]) hne) fun _ => ?_⟩⟩)⟩
 have x0 := x10.trans (x20.trans x22)
 have dr22 := dr.x x0
 generalize namesOf d = ns at hln hv22
 refine loopP_ind (fun m lv w33 => ∃ j : Nat,j ≤ ns.length ∧ m = ns.length - j ∧ lv = [.int .i64 j] ∧ Dk A I w0 w33 D i d k ((b9,.row (rC r a b c)) :: L) ∧ Xt (dkU D i ((b9,.row (rC r a b c)) :: L)) w22 (dkU D i ((b9,.row (rC r a b c)) :: L)) w33) ?_ ⟨0,Nat.zero_le _,rfl,rfl,h22,Xt.refl⟩
 rintro m lv w33 ⟨j,hj,rfl,rfl,h33,x33⟩ R ih
 have hv33 := hv22.x x33
 refine ⟨_,rfl,fun _ => ⟨_,hv33.len',ifT_d (fun hc => ?_) fun hc => ?_⟩⟩
 ·have hjl : j < ns.length := by omega
  refine hv33.at1 rfl hjl fun bb oo u hu ho => ?_
  have hu : [u] = [AV.str ns[j]] := hu
  cases hu
  refine ⟨_,ho,s18 hh h33 fun v39 w40 f40 g40 => ?_⟩
  obtain ⟨h40,x40⟩ := h33.fr f40
  have hrd := pr.rr.read ns[j]
  have v40 := g40.rd (by decide)
  refine ⟨_,_,rfl,_,_,_,_,_,_,_,_,h40.ow.ldN 6 rfl rfl rfl,(hv33.x x40).at1 rfl hjl fun bb oo u hu ho => ?_⟩
  have hu : [u] = [AV.str ns[j]] := hu
  cases hu
  refine ⟨_,ho,s63 hh h40.ow.P ((dr22.x x33).x x40) db (fun f => ?_) fun u54 w55 f55 hv55 => ?_⟩
  ·rw [pr.rr.sec,flat64 (h.V.now f).2]
   have := (h.V.now f).1
   omega
  obtain ⟨h55,x55⟩ := h40.fr f55
  refine ⟨_,_,rfl,ifT_nd (fun hne => absurd (by rw [hrd]) hne) fun _ => s19 hh (v40.x x55).rsB hv55.rsB ?_⟩
  rw [hrd,beq_self_eq_true]
  exact ⟨_,rfl,ifT_f (ih (ns.length - (j + 1)) (by omega) _ _ ⟨j + 1,hjl,rfl,by rw [wi_eq (by omega) (by omega)]; rfl,h55,x33.trans (x40.trans x55)⟩)⟩
 ·obtain ⟨h34,x34,_⟩ := h33.drop
  exact hK w33 h34 (x0.trans (x33.trans x34))
end
end Go.Proofs.Ytbjeebgdjlemjaa
/-
 FilePlays,over memory.
 No condition beyond those that each theorem names.
-/
set_option linter.unusedSimpArgs false
open Go.Sx
set_option linter.unusedVariables false
set_option linter.unusedSimpArgs false
namespace Go.Proofs.Ytbjeebgdjlemjaa
structure DE where
 D : Nat
 i : DI
 d : Dsk
 r : RDk
 a : AV
 b : AV
 c : AV
def DE.row (x : DE) : List AV := rC x.r x.a x.b x.c
def row5 : Bool → AV → AV → List AV
 | false,p,q => [p,q]
 | true,p,q => [q,p]
def row28 : Bool → DE → DE → List AV
 | false,x,y => x.row ++ y.row
 | true,x,y => y.row ++ x.row
structure Sd (A : Nat → Prop) (U : List Nat) (w : AW) (k : Nat) (x : DE) : Prop where
 st : Sv 69 x.i.so x.i.sv (stpsC x.d.steps)
 f1 : FEn (fz A U) w x.i.e1 x.d.safe.files
 f2 : FEn (fz A U) w x.i.e2 x.d.now.files
 V : x.d.V k
 dr : DR (fz A U) w x.a x.b x.c x.r
 pr : PR k x.d x.r
section
variable {hk : Hook} {A B : Nat → Prop} {I : List Nat} {w0 w w' : AW} {D : Nat} {i i' : DI} {d d' : Dsk} {k k' : Nat} {L L' T : Obs} {K : AV → AW → Prop} {a b c v v' : AV} {r : RDk} {U U' : List Nat} {x y : DE} {j : Bool} {b5 b28 : Nat}
theorem Sd.xt (h : Sd A U w k x) (e : Xt U w U' w') : Sd A U' w' k x := ⟨h.st,h.f1.x e,h.f2.x e,h.V,h.dr.x e,h.pr⟩
theorem Sd.le (h : Sd A U w k x) (hk : k ≤ k') : Sd A U w k' x := ⟨h.st,h.f1,h.f2,h.V.le hk,h.dr,h.pr.le hk⟩
theorem Sd.dk (h : Sd A (dkU x.D x.i L) w k x) (st : Ow A I w0 w (dkL x.D x.i x.d L)) (hk : k < 2 ^ 27) : Dk A I w0 w x.D x.i x.d k L := ⟨st,h.st,h.f1,h.f2,h.V,hk⟩
theorem Dk.sd (h : Dk A I w0 w x.D x.i x.d k L) (dr : DR (fz A (dkU x.D x.i L)) w x.a x.b x.c x.r) (pr : PR k x.d x.r) : Sd A (dkU x.D x.i L) w k x := ⟨h.st,h.f1,h.f2,h.V,dr,pr⟩
def l58 (b5 b28 : Nat) (j : Bool) (x y : DE) (T : Obs) : Obs := (b5,.row (row5 j (.ptr x.D 0) (.ptr y.D 0))) :: (b28,.row (row28 j x y)) :: T
def l8 (b5 b28 : Nat) (j : Bool) (x y : DE) (T : Obs) : Obs := dkL x.D x.i x.d (dkL y.D y.i y.d (l58 b5 b28 j x y T))
structure S8 (A : Nat → Prop) (k : Nat) (w0 w : AW) (b5 b28 : Nat) (j : Bool) (x y : DE) : Prop where
 ow : Ow A [] w0 w (l8 b5 b28 j x y [])
 sx : Sd A (ids (l8 b5 b28 j x y [])) w k x
 sy : Sd A (ids (l8 b5 b28 j x y [])) w k y
 kk : k < 900
theorem S8.swap (h : S8 A k w0 w b5 b28 j x y) : S8 A k w0 w b5 b28 (!j) y x := by
 have e : l58 b5 b28 j x y [] = l58 b5 b28 (!j) y x [] := by cases j <;> rfl
 have hp : (l8 b5 b28 j x y []).Perm (l8 b5 b28 (!j) y x []) := by
  unfold l8
  rw [e]
  exact List.perm_append_comm_assoc [_,_,_,_,_,_] [_,_,_,_,_,_] _
 obtain ⟨st,x⟩ := h.ow.perm hp
 exact ⟨st,h.sy.xt x,h.sx.xt x,h.kk⟩
theorem S8.to (h : S8 A k w0 w b5 b28 j x y) (j' : Bool) : ∃ x y,S8 A k w0 w b5 b28 j' x y := by
 by_cases hj : j' = j
 ·subst hj; exact ⟨_,_,h⟩
 ·have : j' = !j := by cases j <;> cases j' <;> simp_all
  subst this; exact ⟨_,_,h.swap⟩
theorem S8.dk (h : S8 A k w0 w b5 b28 j x y) : Dk A [] w0 w x.D x.i x.d k (dkL y.D y.i y.d (l58 b5 b28 j x y [])) := h.sx.dk h.ow (by have := h.kk; omega)
theorem S8.le (h : S8 A k w0 w b5 b28 j x y) (hk : k ≤ k') (h9 : k' < 900) : S8 A k' w0 w b5 b28 j x y := ⟨h.ow,h.sx.le hk,h.sy.le hk,h9⟩
theorem S8.xt (h : S8 A k w0 w b5 b28 j x y) (st : Ow A [] w0 w' (l8 b5 b28 j x y [])) (e : Xt (ids (l8 b5 b28 j x y [])) w (ids (l8 b5 b28 j x y [])) w') : S8 A k w0 w' b5 b28 j x y := ⟨st,h.sx.xt e,h.sy.xt e,h.kk⟩
theorem bAnd1 (x : Int) : ∃ j : Bool,bAnd .i64 x 1 = ((j.toNat : Nat) : Int) := by
 have h : (BitVec.ofInt 64 x &&& BitVec.ofInt 64 1).toNat < 2 := by
  rw [BitVec.toNat_and]
  have : (BitVec.ofInt 64 1).toNat = 1 := by decide
  rw [this,Nat.and_one_is_mod]; omega
 have e : bAnd .i64 x 1 = IntKind.i64.wrap ((BitVec.ofInt 64 x &&& BitVec.ofInt 64 1).toNat : Nat) := rfl
 rw [e]
 generalize (BitVec.ofInt 64 x &&& BitVec.ofInt 64 1).toNat = n at h
 match n,h with
 | 0,_ => exact ⟨false,by decide⟩
 | 1,_ => exact ⟨true,by decide⟩
theorem idxP_of {n sz b o k : Nat} {K : Nat → Nat → Prop} (hk : k < n) (hK : K b (o + k * sz)) : atP (idxP n sz (.ptr b o) (.int .i64 (k : Int))) K := by
 refine atP_iff.2 ⟨b,o + k * sz,?_,hK⟩
 show (asN (.int .i64 (Int.ofNat k))).bind _ = _
 have hbl : Nat.blt k n = true := by rw [Nat.blt_eq]; exact hk
 simp only [asN,Option.bind_some,hbl,guardO,cond_true]
theorem h5 (j : Bool) (p q : AV) : (row5 j p q)[0 + j.toNat * 1]? = some p := by cases j <;> rfl
theorem h5c (j : Bool) (p q : AV) : 0 + (!j).toNat * 1 + 1 ≤ (row5 j p q).length := by cases j <;> simp [row5]
theorem h5q (j : Bool) (p q s : AV) : listPut (row5 j p q) (0 + (!j).toNat * 1) [s] = row5 j p s := by cases j <;> rfl
theorem h28l (j : Bool) (x y : DE) : Nat.ble (0 + j.toNat * 8 + 8) (row28 j x y).length = true := by cases j <;> rfl
theorem h28n (j : Bool) (x y : DE) : AV.agg (((row28 j x y).drop (0 + j.toNat * 8)).take 8) = .agg (rC x.r x.a x.b x.c) := by cases j <;> rfl
theorem h28b (j : Bool) (x y : DE) : 0 + j.toNat * 8 + 8 ≤ (row28 j x y).length := by cases j <;> simp [row28,DE.row,rC]
theorem h28d (j : Bool) (x y : DE) : 0 + (!j).toNat * 8 + 8 ≤ (row28 j x y).length := by cases j <;> simp [row28,DE.row,rC]
theorem h28p (j : Bool) (x y z : DE) : listPut (row28 j x y) (0 + j.toNat * 8) z.row = row28 j z y := by cases j <;> rfl
theorem h28q (j : Bool) (x y z : DE) : listPut (row28 j x y) (0 + (!j).toNat * 8) z.row = row28 j x z := by cases j <;> rfl
theorem h28s (j : Bool) (x y : DE) : (row28 j x y)[0 + j.toNat * 8 + 2]? = some x.c := by cases j <;> rfl
theorem jlt (j : Bool) : j.toNat < 2 := by cases j <;> decide
theorem jnot (j : Bool) : wi (1 - ((j.toNat : Nat) : Int)) = (((!j).toNat : Nat) : Int) := by cases j <;> decide
theorem perm0 {p q : Nat × Ob} {l0 l1 : Obs} : (p :: q :: (l1 ++ (l0 ++ []))).Perm (l0 ++ (l1 ++ [q,p])) :=
 (List.perm_append_comm_assoc [p,q] l1 (l0 ++ [])).trans ((List.Perm.append_left l1 (List.perm_append_comm_assoc [p,q] l0 [])).trans ((List.perm_append_comm_assoc l1 l0 [p,q]).trans (List.Perm.append_left l0 (List.Perm.append_left l1 (List.Perm.swap q p [])))))
theorem permC {p : Nat × Ob} {x6 y6 z6 l : Obs} : (z6 ++ (x6 ++ (p :: (y6 ++ l)))).Perm ((p :: y6) ++ (x6 ++ (z6 ++ l))) :=
 (List.Perm.append_left z6 (List.perm_append_comm_assoc x6 (p :: y6) l)).trans ((List.perm_append_comm_assoc z6 (p :: y6) (x6 ++ l)).trans (List.Perm.append_left (p :: y6) (List.perm_append_comm_assoc z6 x6 l)))
theorem Ow.let6 {M : Obs} (h : Ow A I w0 w (M ++ L)) : Ow A I w0 w L ∧ Xt (ids (M ++ L)) w (ids L) w := h.spoil (Nat.le_refl _) h.mem fun _ _ _ => rfl
theorem Dk.swap2 {D2 : Nat} {i2 : DI} {d2 : Dsk} (st : Ow A I w0 w (dkL D i d (dkL D2 i2 d2 L))) : Ow A I w0 w (dkL D2 i2 d2 (dkL D i d L)) ∧ Xt (dkU D i (dkL D2 i2 d2 L)) w (dkU D2 i2 (dkL D i d L)) w :=
 st.perm (L' := dkL D2 i2 d2 (dkL D i d L)) (List.perm_append_comm_assoc [_,_,_,_,_,_] [_,_,_,_,_,_] L)
set_option maxHeartbeats 2000000 in
set_option maxRecDepth 20000 in
theorem s8 {sv : AV} {ops : List OpF} (hh : HK hk) (pv : Pv (fun _ => True) w) (hs : (rL rOpF).rd (fun _ => True) w [sv] ops) (hb : ∀ o ∈ ops,o.keep.length < 2 ^ 62 ∧ o.n < 2 ^ 63) : Cl Try.prog hk 8 [sv] w fun v _ => v = .bool true := by
 refine in8 (hh.no _ _ _ (by decide) (by decide)) ?_
 unfold F8
 refine s10 hh pv.st fun D0 i0 w2 h2 x2 => s10 hh h2.ow fun D1 i1 w4 h4 x4 => gd_t rfl (gd_t rfl (h4.ow.new' fun b5 w6 st6 x6 => gd_t rfl (st6.put 0 rfl (Nat.le_of_ble_eq_true rfl) fun w7 st7 x7 => ?_)))
 refine s35 hh st7.P fun w9 f9 => ⟨_,_,_,_,_,_,_,_,rfl,?_⟩
 obtain ⟨st9,x9⟩ := st7.call f9
 refine s35 hh st9.P fun w19 f19 => ⟨_,_,_,_,_,_,_,_,rfl,?_⟩
 obtain ⟨st19,x19⟩ := st9.call f19
 refine st19.new' fun b28 w29 st29 x29 => gd_t rfl (st29.put 0 rfl (Nat.le_of_ble_eq_true rfl) fun w30 st30 x30 => ?_)
 let x0 : DE := ⟨D0,i0,Dsk.none,RDk.none,.nilslice,.nilslice,.nilslice⟩
 let y0 : DE := ⟨D1,i1,Dsk.none,RDk.none,.nilslice,.nilslice,.nilslice⟩
 have st30 : Ow (fun _ => True) [] w w30 ((b28,.row (row28 false x0 y0)) :: (b5,.row (row5 false (.ptr D0 0) (.ptr D1 0))) :: (dkL D1 i1 Dsk.none [] ++ (dkL D0 i0 Dsk.none [] ++ []))) := st30
 obtain ⟨st31,x31⟩ := st30.perm perm0
 have S0 : S8 (fun _ => True) 0 w w30 b5 b28 false x0 y0 := by
  have y6 : Xt (dkU D1 i1 (dkL D0 i0 Dsk.none [])) w4 (ids (l8 b5 b28 false x0 y0 [])) w30 := Xt.trans x6 (Xt.trans x7 (Xt.trans x9 (Xt.trans x19 (Xt.trans x29 (Xt.trans x30 x31)))))
  have y2 : Xt (dkU D0 i0 []) w2 (ids (l8 b5 b28 false x0 y0 [])) w30 := Xt.trans x4 y6
  exact ⟨st31,⟨h2.st,h2.f1.x y2,h2.f2.x y2,h2.V,⟨Rp.rd.nil,Rp.rd.nil,Rp.rd.nil⟩,PR.none⟩,⟨h4.st,h4.f1.x y6,h4.f2.x y6,h4.V,⟨Rp.rd.nil,Rp.rd.nil,Rp.rd.nil⟩,PR.none⟩,by decide⟩
 clear st6 st7 st9 st19 st29 st30 st31 x2 x4 x6 x7 x9 x19 x29 x30 x31 h2 h4 f9 f19
 refine join_of (fun lv w' => lv = [] ∧ ∃ x y,S8 (fun _ => True) 120 w w' b5 b28 false x y) ?_ ?_
 ·-- what both hold in the end
  rintro lv w32 ⟨rfl,x,y,S32⟩
  refine ⟨rfl,fun _ => ?_⟩
  refine loopP_ind (fun m lv w36 => ∃ n : Nat,n ≤ 2 ∧ m = 2 - n ∧ lv = [.int .i64 n] ∧ ∃ x y,S8 (fun _ => True) 120 w w36 b5 b28 false x y) ?_ ⟨0,by omega,rfl,rfl,_,_,S32⟩
  rintro m lv w36 ⟨n,hn,rfl,rfl,x,y,S⟩ R ih
  refine ⟨_,rfl,fun _ => ifT_d (fun hc => ?_) fun hc => Cl_hook (hh.awake _) ⟨_,rfl,rfl⟩⟩
  obtain ⟨j,hj⟩ : ∃ j : Bool,n = j.toNat := by
   match n,hc with
   | 0,_ => exact ⟨false,rfl⟩
   | 1,_ => exact ⟨true,rfl⟩
   | n + 2,hc => omega
  obtain ⟨x,y,S⟩ := S.to j
  have next : ∀ {w9 : AW} {x y : DE},S8 (fun _ => True) 120 w w9 b5 b28 j x y → R [.int .i64 (wi ((n : Int) + 1))] w9 := fun S9 => by
   obtain ⟨x9,y9,S9⟩ := S9.to false
   exact ih (2 - (n + 1)) (by omega) _ _ ⟨n + 1,by omega,rfl,by rw [wi_eq (by omega) (by omega)]; rfl,x9,y9,S9⟩
  clear ih
  subst hj
  refine idxP_of (jlt j) (onM_s (S.ow.ld 12 rfl (h5 _ _ _)) (s22 hh S.dk fun D' i' w42 hc xc => ?_))
  have hcV := hc.V
  refine idxP_of (jlt j) (onM_s (hc.ow.ld 18 rfl (h5 _ _ _)) (idxP_of (jlt j) ⟨_,_,_,_,_,_,_,_,hc.ow.ldN 19 rfl (h28l _ _ _) (h28n _ _ _),?_⟩))
  obtain ⟨st43,x43⟩ := Dk.swap2 hc.ow
  have sx43 := S.sx.xt (xc.trans x43)
  refine s37 hh (sx43.dk st43 (by omega)) (by omega) sx43.dr sx43.pr fun w57 h57 x57 => ⟨_,rfl,ifT_f ?_⟩
  obtain ⟨st58,x58⟩ := Dk.swap2 h57.ow
  have y58 := x43.trans (x57.trans x58)
  have hc58 := hc.x st58 y58
  refine s17 (keep := []) (B := fun _ => True) hh hc58 (by decide) Rp.rd.nil fun i2 w60 h60 x60 => ⟨_,rfl,ifT_nd (fun hne => absurd rfl hne) fun _ => ?_⟩
  have sx60 := S.sx.xt (xc.trans (y58.trans x60))
  obtain ⟨nd,db⟩ := sx60.pr.db h57.V (by omega)
  refine idxP_of (jlt j) ⟨_,_,_,_,_,_,_,_,h60.ow.ldN 19 rfl (h28l _ _ _) (h28n _ _ _),s38 (keep := []) hh h60.ow.P sx60.dr db Rp.rd.nil fun a' b' c' w73 f73 dr73 => ⟨_,_,_,_,_,_,_,_,rfl,?_⟩⟩
  obtain ⟨h73,x73⟩ := h60.fr f73
  refine s37 hh (h73.le (k' := 122) (by omega) (by omega)) (by omega) dr73 (sx60.pr.crash h57.V []) fun w83 h83 x83 => ⟨_,rfl,ifT_f ?_⟩
  refine idxP_of (jlt j) (onM_s (h83.ow.ld 18 rfl (h5 _ _ _)) (idxP_of (jlt j) ⟨_,_,_,_,_,_,_,_,h83.ow.ldN 19 rfl (h28l _ _ _) (h28n _ _ _),?_⟩))
  obtain ⟨st84,x84⟩ := Dk.swap2 h83.ow
  have y84 := xc.trans (y58.trans (x60.trans (x73.trans (x83.trans x84))))
  have sx84 := S.sx.xt y84
  refine s37 hh (sx84.dk st84 (by omega)) (by omega) sx84.dr sx84.pr fun w99 h99 x99 => ⟨_,rfl,ifT_f ?_⟩
  obtain ⟨st100,x100⟩ := Dk.swap2 h99.ow
  have st100 : Ow (fun _ => True) [] w w99 (dkL D' i2 (x.d.crash []) [] ++ l8 b5 b28 j x y []) := st100
  obtain ⟨st101,x101⟩ := Ow.let6 st100
  exact next (S.xt st101 (y84.trans (x99.trans (x100.trans x101))))
 ·intro J hJ
  refine loopP_ind (fun m lv w' => ∃ i : Nat,i ≤ 60 ∧ i ≤ ops.length ∧ m = 60 - i ∧ lv = [.int .i64 i] ∧ ∃ x y,S8 (fun _ => True) (2 * i) w w' b5 b28 false x y) ?_ ⟨0,by omega,Nat.zero_le _,rfl,rfl,x0,y0,S0⟩
  clear S0
  rintro m lv w106 ⟨i,hi,hio,rfl,rfl,x,y,S⟩ R ih
  have hs106 := S.ow.arg pv.mem hs
  refine ⟨_,rfl,fun _ => ⟨_,hs106.len',ifT_d (fun hc => ifT_d (fun hc2 => ?_) fun hc2 => hJ _ _ ⟨rfl,_,_,S.le (by omega) (by omega)⟩) fun hc => hJ _ _ ⟨rfl,_,_,S.le (by omega) (by omega)⟩⟩⟩
  clear hJ
  have hil : i < ops.length := by omega
  obtain ⟨hb1,hb2⟩ := hb _ (List.getElem_mem hil)
  obtain ⟨j,hj⟩ := bAnd1 ops[i].on
  obtain ⟨x,y,S⟩ := S.to j
  have hs106 := S.ow.arg pv.mem hs
  have next : ∀ {w9 : AW} {x y : DE},S8 (fun _ => True) (2 * i + 2) w w9 b5 b28 j x y → R [.int .i64 (wi ((i : Int) + 1))] w9 := fun S9 => by
   obtain ⟨x9,y9,S9⟩ := S9.to false
   exact ih (60 - (i + 1)) (by omega) _ _ ⟨i + 1,by omega,by omega,rfl,by rw [wi_eq (by omega) (by omega)]; rfl,x9,y9,S9⟩
  clear ih
  refine hs106.at hil fun b109 o110 cs hcs hf hnn => ?_
  obtain ⟨kv,rfl,hkv⟩ := hcs
  generalize ops[i] = o at hj hkv hb1 hb2 hnn
  have oko : (opC o kv).all okCell = true := by
   have := hkv.ok1
   simp only [List.all_cons,this]; rfl
  refine ⟨_,_,_,_,_,_,_,_,_,hnn,S.dk.new' fun b120 w121 h121 x121 => gd_t oko (h121.wr 0 rfl (Nat.le_of_ble_eq_true rfl) fun w122 h122 x122 => ?_)⟩
  have h122 : Dk (fun _ => True) [] w w122 x.D x.i x.d (2 * i) ((b120,.row (opC o kv)) :: dkL y.D y.i y.d (l58 b5 b28 j x y [])) := h122
  have x122 : Xt (ids (l8 b5 b28 j x y [])) w106 (dkU x.D x.i ((b120,.row (opC o kv)) :: dkL y.D y.i y.d (l58 b5 b28 j x y []))) w122 := Xt.trans x121 x122
  refine ⟨_,h122.ow.ld 6 rfl rfl,_,h122.ow.ld 6 rfl rfl,?_⟩
  rw [hj]
  have sx122 := S.sx.xt x122
  have sy122 := S.sy.xt x122
  refine ifT_d (fun _ => ?_) fun _ => ?_
  ·-- Copy
   refine idxP_of (jlt j) (onM_s (h122.ow.ld 13 rfl (h5 _ _ _)) (idxP_of (jlt j) ⟨_,_,_,_,_,_,_,_,h122.ow.ldN 14 rfl (h28l _ _ _) (h28n _ _ _),s22 hh h122 fun D' i' w139 hc xc => ⟨hc.ow.ldN 20 rfl (h28l _ _ _) (h28n _ _ _),?_⟩⟩))
   rw [jnot]
   refine idxP_of (jlt _) (gd_t rfl (hc.ow.put 19 rfl (h5c _ _ _) fun w142 st142 x142 => ?_))
   rw [h5q] at st142
   refine ⟨st142.ldN 20 rfl (h28l _ _ _) (h28n _ _ _),idxP_of (jlt _) (gd_t sx122.dr.ok (st142.put 20 rfl (h28d _ _ _) fun w145 st145 x145 => ?_))⟩
   let z : DE := ⟨D',i',x.d,x.r,x.a,x.b,x.c⟩
   have e28 : listPut (row28 j x y) (0 + (!j).toNat * 8) [x.a,x.b,x.c,.int .i64 x.r.last,.bool x.r.down,.int .i64 x.r.arm,.int .i64 x.r.fault,.int .i64 x.r.wth] = row28 j x z := h28q j x y z
   rw [e28] at st145
   have st145 : Ow (fun _ => True) [] w w145 (dkL z.D z.i z.d [] ++ (dkL x.D x.i x.d [] ++ ((b120,.row (opC o kv)) :: (dkL y.D y.i y.d [] ++ l58 b5 b28 j x z [])))) := st145
   obtain ⟨st146,x146⟩ := st145.perm permC
   obtain ⟨st147,x147⟩ := Ow.let6 st146
   have yc : Xt (dkU D' i' (dkL x.D x.i x.d ((b120,.row (opC o kv)) :: dkL y.D y.i y.d (l58 b5 b28 j x y [])))) w139 (ids (l8 b5 b28 j x z [])) w145 := Xt.trans x142 (Xt.trans x145 (Xt.trans x146 x147))
   have hc2 : Sd (fun _ => True) (ids (l8 b5 b28 j x z [])) w145 (2 * i) z := ⟨hc.st,hc.f1.x yc,hc.f2.x yc,hc.V,sx122.dr.x (xc.trans yc),sx122.pr⟩
   exact next ((⟨st147,sx122.xt (xc.trans yc),hc2,by omega⟩ : S8 (fun _ => True) (2 * i) w w145 b5 b28 j x z).le (by omega) (by omega))
  ·-- a call
   refine idxP_of (jlt j) (onM_s (h122.ow.ld 13 rfl (h5 _ _ _)) (idxP_of (jlt j) ⟨_,_,_,_,_,_,_,_,h122.ow.ldN 14 rfl (h28l _ _ _) (h28n _ _ _),_,_,_,_,_,_,_,_,_,h122.ow.ldN 6 rfl rfl rfl,?_⟩))
   refine s36 hh h122 (by omega) sx122.dr sx122.pr (hkv.x x122) hb1 hb2 fun i' d' r' a' b' c' w169 h169 x169 dr' pr' => ⟨_,_,_,_,_,_,_,_,_,rfl,?_⟩
   let z : DE := ⟨x.D,i',d',r',a',b',c'⟩
   refine idxP_of (jlt j) (gd_t dr'.ok (h169.wr 8 rfl (h28b _ _ _) fun w181 h181 x181 => ifT_f ?_))
   have e28 : listPut (row28 j x y) (0 + j.toNat * 8) [a',b',c',.int .i64 r'.last,.bool r'.down,.int .i64 r'.arm,.int .i64 r'.fault,.int .i64 r'.wth] = row28 j z y := h28p j x y z
   rw [e28] at h181 x181
   have h181 : Dk (fun _ => True) [] w w181 z.D z.i z.d (2 * i + 2) ((b120,.row (opC o kv)) :: dkL y.D y.i y.d (l58 b5 b28 j z y [])) := h181
   have x181 : Xt (dkU x.D i' ((b120,.row (opC o kv)) :: dkL y.D y.i y.d (l58 b5 b28 j x y []))) w169 (dkU z.D z.i ((b120,.row (opC o kv)) :: dkL y.D y.i y.d (l58 b5 b28 j z y []))) w181 := x181
   have dr181 := dr'.x x181
   refine idxP_of (jlt j) (onM_s (h181.ow.ld 13 rfl (h5 _ _ _)) (idxP_of (jlt j) (onM_s (h181.ow.ld 14 rfl (h28s j z y)) ⟨_,dr181.st.len',s28 hh h181 ⟨_,rfl,h181.ow.ld 14 rfl (h28s j z y),ifT_nd (fun hne => absurd (by show ((d'.steps.length : Nat) : Int) = (r'.steps.length : Nat); rw [pr'.rr.st]) hne) fun _ => ?_⟩⟩)))
   obtain ⟨h182,x182,_⟩ := h181.drop
   have S2 : S8 (fun _ => True) (2 * i + 2) w w181 b5 b28 j z y := ⟨h182.ow,Dk.sd (x := z) h182 (dr181.x x182) pr',(sy122.xt (x169.trans (x181.trans x182))).le (by omega),by omega⟩
   exact next S2
end
end Go.Proofs.Ytbjeebgdjlemjaa
