/- The engine. -/
import Derived.Test.YtbohadngdkjljaaGreatFwM
namespace Go.Fw
set_option linter.unusedSimpArgs false
set_option linter.unusedVariables false
open Go Go.RowKit
variable {w0 w:World} {M:Nat→Prop} {I0 I:IH} {m m':List HA}
variable {P:Program} {n:FrK} {E:DA} {Q:Exit→Act→World→Prop} {ops:Array Oper} {l:List Oper}
variable {d ty:Nat} {pos:String} {af:Array Edge} {T e:TypeId} {x y z:Operand}
variable {α:Type} {El:F0 α} {xs ys:List α} {a:Option Addr} {cap:Nat}
/-! ### Elements of own slices that lead on -/
variable {T' sT:TypeId} {zc:Value} {m2:List HA}
theorem OwnSl.els {b:Nat} (h:Sym w0 M I0 I m w) (G:Del m (OwnSl El T' (some ⟨b,0,none⟩) cap xs) m') {i:Nat} {v:α} (hi:xs[i]? = some v) :
   ∃ cs,El.rep I cs v∧∀ j u,cs[j]? = some u→w.cell? ⟨b,i*El.sz+j,none⟩=some u:=by
 obtain ⟨k1,O,hk⟩:=(h.del G).get
 rcases O with ⟨D,_⟩ | ⟨b',c,D,U,h3,h4,J⟩
 · cases D
 · cases D
   obtain ⟨cs,V,W⟩:=J i v hi
   exact ⟨cs,V,fun j u Y=>by rw [L9 (hk _ _ U)]; exact W j u Y⟩
theorem Ops.loEs {b o i j:Nat} {v:α} {u:Value} (G:∀ w,(isAgg T).run P w=.ok false w) (D:Del m (OwnSl El T' (some ⟨b,0,none⟩) cap xs) m') (hi:xs[i]? = some v) (Y:ev E x=some (.pointer (some ⟨b,o,none⟩))) (U:o=i*El.sz+j)
  (hj:∀ cs,El.rep I cs v→cs[j]? = some u) (h:Nat.blt d n.sz=true) (V:fresh E d=true) (k:Ops P ops l n ((d,u) :: E) (Sym w0 M I0 I m) Q):Ops P ops (⟨some d,.load T x,ty,pos,af,none⟩ :: l) n E (Sym w0 M I0 I m) Q:=
 Ops.val rfl rfl (fun c w J O=>by
  subst U
  obtain ⟨cs,W,Z⟩:=OwnSl.els O D hi
  simp [execOp,J.eval Y,O9 (P:=P) G (Z j u (hj cs W))]) h V k
theorem Ops.loEW {b o i O:Nat} {v:α} (Y:∀ w,(isAgg T).run P w=.ok true w) (hS:∀ w,(sizeOf T).run P w=.ok O w) (V:Del m (OwnSl El T' (some ⟨b,0,none⟩) cap xs) m') (hi:xs[i]? = some v)
  (hx:ev E x=some (.pointer (some ⟨b,o,none⟩))) (G:o=i*El.sz) (hl:El.sz=O) (U:Nat.blt d n.sz=true) (hf:fresh E d=true) (k:∀ cs,El.rep I cs v→Ops P ops l n ((d,.agg cs.toArray) :: E) (Sym w0 M I0 I m) Q) :
  Ops P ops (⟨some d,.load T x,ty,pos,af,none⟩ :: l) n E (Sym w0 M I0 I m) Q:=
 Ops.valx (fun u w'=>(∃ cs,u=.agg cs.toArray∧El.rep I cs v)∧Sym w0 M I0 I m w') rfl rfl (fun c w Z h=>by
  subst G
  obtain ⟨cs,D,g2⟩:=OwnSl.els h V hi
  refine ⟨.agg cs.toArray,w,?_,⟨cs,rfl,D⟩,h⟩
  simp [execOp,Z.eval hx,JG (P:=P) Y hS (El.len D |>.trans hl) (fun W v' J=>g2 W v' J)]) U hf (fun u c w G ⟨⟨cs,hu,D⟩,h⟩=>by subst hu; exact k cs D c w G h)
def US (a:Option Addr) (cap L s:Nat):Option Addr:=if cap=L then a else a.map (·.add (L*s))
theorem OwnSl.take {k:IH} (h:(OwnSl El T a cap xs).holds I k) (H:Nat):(OwnSl El T a cap (xs.take H)).holds I k:=by
 rcases h with ⟨J,G,O⟩ | ⟨b,c,J,G,O,V,U⟩
 · exact .inl ⟨J,by rw [G]; simp,O⟩
 · refine .inr ⟨b,c,J,G,by simp; omega,V,fun i x D=>U i x ?_⟩
   rw [List.getElem?_take] at D
   split at D
   · exact D
   · cases D
theorem uQ (a:Option Addr) (cap s:Nat):US a cap 0 s=a:=by
 unfold US
 split
 · rfl
 · cases a with
   | none=>rfl
   | some p=>simp only [Option.map_some,Nat.zero_mul,Addr.add]; split <;> simp_all
theorem Cod.ownCap {c:Code} (J:Del m (OwnSl El T a cap xs) m') (k:xs.length≤cap→Cod P c n E (Sym w0 M I0 I m) Q):Cod P c n E (Sym w0 M I0 I m) Q:=by
 intro c w U D
 refine k ?_ c w U D
 obtain ⟨k1,O,_⟩:=(D.del J).get
 rcases O with ⟨_,G,h⟩ | ⟨b,_,_,_,h,_⟩
 · rw [G,h]; exact Nat.le_refl _
 · exact h
theorem Ops.sliceOm {S:World→Prop} {lo hi O:Option Operand} {q J h:IntKind} {i j t:Int} {k s:Nat} (hT:P.underlying T=some (.slice e)) (Y:∀ w,(sizeOf e).run P w=.ok s w) (hx:ev E x=some (.slice a k cap))
   (hl:qB E lo=some (some (.int q i))) (V:qB E hi=some (some (.int J j))) (hm:qB E O=some (some (.int h t))) (Z:0≤i) (h1:i≤j) (h2:j≤t) (h3:t≤cap) (hb:Nat.blt d n.sz=true) (hf:fresh E d=true)
   (W:∀ v,Ops P ops l n ((d,v) :: E) S Q):Ops P ops (⟨some d,.slice T x lo hi O,ty,pos,af,none⟩ :: l) n E S Q:=by
 have G:∀ w,(Instr.sliceBounds true k cap (some (.int q i)) (some (.int J j)) (some (.int h t))).run P w=.ok (i.toNat,j.toNat,t.toNat) w:=by
   intro w
   have U:0≤t:=by omega
   have g1:(0:Int)≤j:=by omega
   have g2:j≤max t 0:=by omega
   have g3:i≤max j 0:=by omega
   simp [Instr.sliceBounds,Instr.sliceBound,asIntOf,Z,U,h3,g1,g2,g3]
 refine Ops.valx (fun _ w'=>S w') rfl rfl (fun c w D hw=>⟨.slice (if t.toNat=i.toNat then a else a.map (·.add (i.toNat*s))) (j.toNat - i.toNat) (t.toNat - i.toNat),w,?_,hw⟩) hb hf (fun v=>W v)
 · simp only [execOp,D.eval hx,O1 D hl,O1 D V,O1 D hm,Instr.sliceAt,Sem.run_bind,run_underlying hT,Result.andThen_ok,Instr.slice,G,Y,Sem.run_pure]
theorem Ops.sliceO {lo hi:Option Operand} {D O:Option Value} {L H k s:Nat} (hT:P.underlying T=some (.slice e)) (hs:∀ w,(sizeOf e).run P w=.ok s w) (hx:ev E x=some (.slice a k cap)) (hk:k=xs.length)
  (hA:Del m (OwnSl El T' a cap xs) m') (hl:qB E lo=some D) (Y:qB E hi=some O) (J:D=none∧L=0∨∃ q i,D=some (.int q i)∧0≤i∧i.toNat=L)
  (V:O=none∧H=k∨∃ q i,O=some (.int q i)∧0≤i∧i.toNat=H) (h1:L≤H) (G:H≤xs.length) (hb:Nat.blt d n.sz=true) (hf:fresh E d=true)
  (k':Ops P ops l n ((d,.slice (US a cap L s) (H - L) (cap - L)) :: E) (Sym w0 M I0 I m) Q) :
  Ops P ops (⟨some d,.slice T x lo hi none,ty,pos,af,none⟩ :: l) n E (Sym w0 M I0 I m) Q:=by
 subst hk
 refine Ops.val rfl rfl (fun c w U h=>?_) hb hf k'
 obtain ⟨k1,ha,_⟩:=(h.del hA).get
 have Z:xs.length≤cap:=by
  rcases ha with ⟨_,G,W⟩ | ⟨b,_,_,_,W,_⟩
  · rw [G,W]; exact Nat.le_refl _
  · exact W
 have hr:=eG (P:=P) (a:=a) hT hs h1 G Z J V w
 simp only [execOp,U.eval hx,O1 U hl,O1 U Y,Option.map_none,hr,Sem.run_bind,Sem.run_pure,Result.andThen_ok]
 rfl
theorem Ops.sliceTail {lo hi:Option Operand} {L N k s:Nat} {q V:IntKind} {i j:Int} (hT:P.underlying T=some (.slice e)) (hs:∀ w,(sizeOf e).run P w=.ok s w) (hx:ev E x=some (.slice a k cap))
  (hl:qB E lo=some (some (.int q i))) (Z:qB E hi=some (some (.int V j))) (h:0≤i) (O:i.toNat=L) (G:0≤j) (U:j.toNat=N) (h1:L≤N) (h2:N≤cap) (Y:Nat.blt d n.sz=true) (hf:fresh E d=true) {S:World→Prop}
  (k':Ops P ops l n ((d,.slice (US a cap L s) (N - L) (cap - L)) :: E) S Q) :
  Ops P ops (⟨some d,.slice T x lo hi none,ty,pos,af,none⟩ :: l) n E S Q:=by
 refine Ops.val rfl rfl (fun c w D W=>?_) Y hf k'
 have J:(Instr.sliceBounds true k cap (some (.int q i)) (some (.int V j)) none).run P w=.ok (L,N,cap) w:=by
  have g1:j≤(cap:Int):=by omega
  have g2:i≤(N:Int):=by omega
  simp [Instr.sliceBounds,Instr.sliceBound,asIntOf,h,G,g1,U,g2,O]
 simp only [execOp,D.eval hx,O1 D hl,O1 D Z,Option.map_none,Instr.sliceAt,Sem.run_bind,run_underlying hT,Result.andThen_ok,Instr.slice,J,hs,Sem.run_pure]
 rfl
section
variable {enc:α→List Value} {s:Nat} {he:∀ x,(enc x).length=s∧LQ (enc x)=true}
theorem Sym.appendDel {ty':TypeId} {r:List HA} {B:Nat} {i:TypeInfo} (h:Sym w0 M I0 I (OwnSl (IR s enc he) e a cap xs :: r) w)
   (hT:P.underlying sT=some (.slice e)) (hi:P.info? e=some i) (hsz:i.size=s) (hB:i.bytes=B) (hz:i.zero=some zc) (hzc:zc.cells.size=s) {L H:Nat} (h1:L≤H) (h2:H≤xs.length) :
   ∃ w',(Builtin.append_ #[sT,sT] ty' #[.slice a L cap,.slice (US a cap H s) (xs.length - H) (cap - H)]).run P w=.ok (.slice a (xs.take L++xs.drop H).length cap) w'∧Sym w0 M I0 I (OwnSl (IR s enc he) e a cap (xs.take L++xs.drop H) :: r) w':=by
 obtain ⟨k1,ha,hk1⟩:=h.get
 have hc:xs.length≤cap:=by
   rcases ha with ⟨_,h2,h3⟩ | ⟨b,_,_,_,h3,_⟩
   · rw [h2,h3]; exact Nat.le_refl _
   · exact h3
 have hR:RepSl (IR s enc he) (hp w) a cap xs:=AdH ⟨k1,(OwnSl (IR s enc he) e a cap xs).mono h.imm (IH.le.refl _) ha,hk1⟩
 have hR2:=hR.slice h2 (Nat.le_refl _)
 rw [List.take_length] at hR2
 have hst:Sym w (fun b=>(fun _=>none:IH) b≠none) (hp w) (hp w) [] w:=Fun.start (IH.le.refl _) trivial (fun _ _ x=>nomatch x) (fun _=>.inr rfl)
 obtain ⟨hv,src,W,hs2⟩:=Src.imm (P:=P) (m:=[]) (w0:=w) (M:=fun b=>(fun _=>none:IH) b≠none) (I0:=hp w) (k:=xs.length - H) hR2 (by simp)
 have G:(xs.drop H).length=xs.length - H:=by simp
 have hs1':RepCs (IR s enc he) I src (xs.drop H):=⟨W.1,W.2.1,W.2.2⟩
 have V:(xs.take L).length=L:=by rw [List.length_take]; omega
 have D:(xs.take L).length+(xs.drop H).length≤cap:=by rw [V,G]; omega
 have hsm:Sym w0 M I0 I (OwnSl (IR s enc he) e a cap (xs.take L) :: r) w:=h.weaken fun _ hk=>OwnSl.take hk L
 obtain ⟨kk,ha',_⟩:=hsm.get
 have hrun:=hs2 w hst
 -- in place
 rcases ha with ⟨g1,g2,g3⟩ | ⟨b,c,g1,g2,g3,g4,g5⟩
 · subst g1 g2 g3
   have hL:L=0:=by simp at h2; omega
   have hH:H=0:=by simpa using h2
   subst hL hH
   refine ⟨w,?_,?_⟩
   · have:=LB (P:=P) (w:=w) (w':=w) (ty':=ty') (a:=none) (cap:=0) (k:=0) (kv:=0) (cv:=0) (bv:=none) (src:=#[]) (s:=s) hT hT (fun w=>by simp [sizeOf,typeInfo,hi,hsz]) (by omega) (by simp [Builtin.firstCells]) (fun p hp=>by cases hp) (fun _=>rfl)
     simpa [US] using this
   · simpa using h
 · subst g1
   have hso:∀ w,(sizeOf e).run P w=.ok s w:=fun w=>by simp [sizeOf,typeInfo,hi,hsz]
   obtain ⟨hb,himm,hn,q,⟨q1,q2,hd',hl1,hl2,hq,hs'⟩,hkk,hdj,hm⟩:=hsm
   rcases hq with ⟨h1',_⟩ | ⟨b',O,h1',h2',h3',h4',h5'⟩
   · cases h1'
   cases h1'
   have hpt:Sym w0 M I0 I (Fw.pto b (.cells O e (0,0)) :: r) w:=⟨hb,himm,hn,q,⟨q1,q2,hd',hl1,hl2,h2',hs'⟩,hkk,hdj,hm⟩
   have hmul:L*s+(xs.drop H).length*s≤cap*s:=by rw [←Nat.add_mul]; exact Nat.mul_le_mul_right _ (by rw [V] at D; exact D)
   have hsl:src.length=(xs.drop H).length*s:=hs1'.1
   have hr:=run_storeCells_at (P:=P) b (L*s) e src 0 O w hpt.pto (by rw [hsl]; show _≤O.size; rw [h4']; exact hmul) (SN W.2.2)
   have e1:(⟨b,0,none⟩:Addr).add (L*s)=⟨b,L*s,none⟩:=by unfold Addr.add; split <;> simp_all
   have U:=hrun w rfl
   rw [G] at U
   refine ⟨w.setRow b (O.toList.take (L*s+0)++src++O.toList.drop (L*s+0+src.length)).toArray,?_,?_⟩
   · have:=LB (P:=P) (w:=w) (ty':=ty') (a:=some ⟨b,0,none⟩) (cap:=cap) (k:=L) (kv:=xs.length - H) (cv:=cap - H) (bv:=US (some ⟨b,0,none⟩) cap H s) (src:=src.toArray) (s:=s) hT hT hso (by rw [V,G] at D; exact D) U (fun p hp=>by cases hp; rw [e1]; exact hr) (fun h=>by cases h)
     rw [this]; simp only [List.length_append,V,G]
   · have hup:=hpt.upd (o':=.cells (O.toList.take (L*s+0)++src++O.toList.drop (L*s+0+src.length)).toArray e (0,0)) (w':=w.setRow b _) rfl rfl rfl rfl (by simp [World.setRow]) (fun q hq=>Fw.setRow_other hq) (setRow_heap w b _ _ e _ hpt.pto)
     refine hup.weaken fun q hq=>.inr ⟨b,_,rfl,hq,by rw [List.length_append]; exact D,?_,?_⟩
     · have J:O.size=cap*s:=h4'
       simp only [List.size_toArray,List.length_append,List.length_take,List.length_drop,Array.length_toList,hsl,J]
       show _=cap*s
       rw [G] at hmul
       rw [Nat.min_eq_left (by omega)]
       omega
     · intro Y x2 Z
       simp only [Nat.add_zero,List.getElem?_toArray]
       have J:O.size=cap*s:=h4'
       rcases Nat.lt_or_ge Y L with h6 | h6
       · rw [List.getElem?_append_left (by omega)] at Z
         obtain ⟨cs,g3,g4⟩:=h5' Y x2 Z
         refine ⟨cs,g3,fun j u hj=>?_⟩
         have hjl:j<s:=by
          have h0:cs.length=s:=(IR s enc he).len g3
          have h1:=(List.getElem?_eq_some_iff.1 hj).1
          omega
         have hm2:(Y+1)*s≤L*s:=Nat.mul_le_mul_right _ h6
         rw [Nat.add_mul,Nat.one_mul] at hm2
         have:=g4 j u hj
         rw [←Array.getElem?_toList] at this
         have this':O.toList[Y*s+j]? = some u:=this
         have hle:L*s≤O.toList.length:=by simp [J]; omega
         show (_++_++_)[Y*s+j]? = _
         rw [List.append_assoc,List.getElem?_append_left (by rw [List.length_take]; omega),List.getElem?_take,if_pos (by omega),this']
       · rw [List.getElem?_append_right (by omega)] at Z
         obtain ⟨cs,g3,g4⟩:=W.2.1 _ x2 Z
         refine ⟨cs,g3,fun j u hj=>?_⟩
         have h7:=g4 j u hj
         have h8:=(List.getElem?_eq_some_iff.1 h7).1
         rw [V] at h7 h8
         have e3:Y*s=L*s+(Y - L)*s:=by rw [←Nat.add_mul]; congr 1; omega
         have h7':src[(Y - L)*s+j]? = some u:=h7
         have h8':(Y - L)*s+j<src.length:=h8
         have hle:L*s≤O.toList.length:=by simp [J]; omega
         show (_++_++_)[Y*s+j]? = _
         rw [List.append_assoc,List.getElem?_append_right (by rw [List.length_take]; omega),List.getElem?_append_left (by rw [List.length_take]; omega),←h7']
         rw [List.length_take]
         congr 1; omega
theorem Ops.appendDel {i:TypeInfo} {G:Array TypeId} {L H:Nat} (B:Nat) (hA:At m (OwnSl (IR s enc he) e a cap xs) m' (OwnSl (IR s enc he) e a cap (xs.take L++xs.drop H))) (hT:P.underlying sT=some (.slice e)) (hi:P.info? e=some i)
  (hsz:i.size=s) (hB:i.bytes=B) (hz:i.zero=some zc) (hzc:zc.cells.size=s) (h:G = #[sT,sT]) {a1:Option Addr} {W D H2:Nat} (hx:ev E x=some (.slice a1 W D)) (hy:ev E y=some (.slice (US a cap H s) (H2 - H) (cap - H)))
  (O:a1=a) (Z:W=L) (hx3:D=cap) (U:H2=xs.length) (h1:L≤H) (h2:H≤xs.length) (hb:Nat.blt d n.sz=true) (hf:fresh E d=true)
  (k':Ops P ops l n ((d,.slice a (xs.take L++xs.drop H).length cap) :: E) (Sym w0 M I0 I m') Q) :
  Ops P ops (⟨some d,.call ⟨.builtin .append,#[x,y],G⟩,ty,pos,af,none⟩ :: l) n E (Sym w0 M I0 I m) Q:=
 Ops.valx (fun v w'=>v=.slice a (xs.take L++xs.drop H).length cap∧Sym w0 M I0 I m' w') rfl rfl
  (fun c w J V=>by
   subst O Z hx3 U
   obtain ⟨r,g2,g3⟩:=hA.del
   obtain ⟨w',hr,Y⟩:=Sym.appendDel (P:=P) (ty':=ty) (V.del g2) hT hi hsz hB hz hzc h1 h2
   subst h
   refine ⟨_,w',?_,rfl,Y.undel g3⟩
   have e:(#[x,y].map c.eval) = #[.slice a1 W D,.slice (US a1 D H s) (xs.length - H) (D - H)]:=by simp [J.eval hx,J.eval hy]
   simp only [execOp,resolve,e,Sem.run_bind,Sem.run_pure,Result.andThen_ok,invoke,builtin,hr]) hb hf
  (fun v c w J ⟨hv,V⟩=>by subst hv; exact k' c w J V)
end
theorem Ops.clearTail {i:TypeInfo} {tys:Array TypeId} {L N:Nat} (hA:Del m (OwnSl El e a cap xs) m') (hT:P.underlying sT=some (.slice e)) (hi:P.info? e=some i)
    (hsz:i.size=El.sz) (hz:i.zero=some zc) (hzc:zc.cells.size=El.sz) (hz1:LQ zc.cells.toList=true) (htys:tys[0]? = some sT) (hx:ev E x=some (.slice (US a cap L El.sz) (N - L) (cap - L)))
    (h1:L=xs.length) (h2:N≤cap) (k':Ops P ops l n E (Sym w0 M I0 I m) Q) :
    Ops P ops (⟨none,.call ⟨.builtin .clear,#[x],tys⟩,ty,pos,af,none⟩ :: l) n E (Sym w0 M I0 I m) Q:=
  Ops.val0 rfl rfl (fun c w ho hs=>by
    have e0:(#[x].map c.eval) = #[.slice (US a cap L El.sz) (N - L) (cap - L)]:=by simp [ho.eval hx]
    have hzv:∀ w,(zeroValue e).run P w=.ok zc w:=fun w=>by simp [zeroValue,typeInfo,hi,hz]
    have hst:=hs.del hA
    obtain ⟨hb,himm,hn,q,⟨q1,q2,hd',hl1,hl2,hq,hs'⟩,hkk,hdj,hm⟩:=hst
    rcases hq with ⟨g1,g2,g3⟩ | ⟨b,c',g1,g2,g3,g4,g5⟩
    · subst g1 g2 g3
      refine ⟨.tuple #[],w,?_,hs⟩
      have hN:N - L=0:=by omega
      have hv:US none 0 L El.sz=none:=by unfold US; split <;> rfl
      simp [execOp,resolve,e0,invoke,builtin,Builtin.clear_,htys,run_underlying hT,hv]
    · subst g1
      by_cases hN:N - L=0
      · refine ⟨.tuple #[],w,?_,hs⟩
        rw [hN] at e0
        have hv:∃ ad,US (some ⟨b,0,none⟩) cap L El.sz=some ad:=by unfold US; split <;> exact ⟨_,rfl⟩
        obtain ⟨ad,hv⟩:=hv
        rw [hv] at e0
        simp [execOp,resolve,e0,invoke,builtin,Builtin.clear_,htys,run_underlying hT]
      · have hv:US (some ⟨b,0,none⟩) cap L El.sz=some ⟨b,L*El.sz,none⟩:=by
          unfold US
          rw [if_neg (by omega)]
          simp only [Option.map_some,Addr.add]; split <;> simp_all
        rw [hv] at e0
        have hpt:Sym w0 M I0 I (Fw.pto b (.cells c' e (0,0)) :: m') w:=⟨hb,himm,hn,q,⟨q1,q2,hd',hl1,hl2,g2,hs'⟩,hkk,hdj,hm⟩
        have hmul:L*El.sz+(N - L)*El.sz≤cap*El.sz:=by rw [←Nat.add_mul]; exact Nat.mul_le_mul_right _ (by omega)
        have hzl:(Builtin.zeroCells zc.cells (N - L)).toList.length=(N - L)*El.sz:=by simp [kI _ hzc]
        have h1z:∀ v∈(Builtin.zeroCells zc.cells (N - L)).toList,one v=true:=by
          intro v hv
          simp only [Builtin.zeroCells,Array.toList_map,List.mem_map,Array.toList_range,List.mem_range] at hv
          obtain ⟨i',hi',rfl⟩:=hv
          have hpos : 0 < zc.cells.size := by rcases Nat.eq_zero_or_pos zc.cells.size with h | h; · simp [h] at hi'
                                              · exact h
          have hlt:i' % zc.cells.size<zc.cells.size:=Nat.mod_lt _ hpos
          rw [getElem!_pos zc.cells _ hlt]
          exact SN hz1 _ (by simp)
        have hr:=run_storeCells_at (P:=P) b (L*El.sz) e (Builtin.zeroCells zc.cells (N - L)).toList 0 c' w hpt.pto (by rw [hzl,g4]; omega) h1z
        refine ⟨.tuple #[],w.setRow b (c'.toList.take (L*El.sz+0)++(Builtin.zeroCells zc.cells (N - L)).toList++c'.toList.drop (L*El.sz+0+(Builtin.zeroCells zc.cells (N - L)).toList.length)).toArray,?_,?_⟩
        · have hr':(storeCells ⟨b,L*El.sz,none⟩ (Builtin.zeroCells zc.cells (N - L)).toList).run P w=.ok () (w.setRow b (c'.toList.take (L*El.sz+0)++(Builtin.zeroCells zc.cells (N - L)).toList++c'.toList.drop (L*El.sz+0+(Builtin.zeroCells zc.cells (N - L)).toList.length)).toArray):=hr
          cases hk:N - L with
          | zero=>exact absurd hk hN
          | succ k=>
            rw [hk] at hr' e0
            simp only [execOp,resolve,e0,invoke,builtin,Builtin.clear_,Sem.run_bind,Sem.run_pure,Result.andThen_ok,htys,List.getElem?_toArray,List.getElem?_cons_zero,run_underlying hT,hzv,hr']
        · have hup:=hpt.upd (o':=.cells (c'.toList.take (L*El.sz+0)++(Builtin.zeroCells zc.cells (N - L)).toList++c'.toList.drop (L*El.sz+0+(Builtin.zeroCells zc.cells (N - L)).toList.length)).toArray e (0,0)) (w':=w.setRow b _) rfl rfl rfl rfl (by simp [World.setRow]) (fun q hq=>Fw.setRow_other hq) (setRow_heap w b _ _ e _ hpt.pto)
          refine (Sym.weaken hup (B:=OwnSl El e (some ⟨b,0,none⟩) cap xs) fun q hq=>.inr ⟨b,_,rfl,hq,g3,?_,?_⟩).undel hA
          · simp only [List.size_toArray,List.length_append,List.length_take,List.length_drop,Array.length_toList,hzl,g4]; omega
          · intro i2 x2 hx2
            obtain ⟨cs,u1,u2⟩:=g5 i2 x2 hx2
            refine ⟨cs,u1,fun j u hj=>?_⟩
            have hil:=(List.getElem?_eq_some_iff.1 hx2).1
            have hjl:j<El.sz:=by rw [←El.len u1]; exact (List.getElem?_eq_some_iff.1 hj).1
            have hm2:(i2+1)*El.sz≤L*El.sz:=Nat.mul_le_mul_right _ (by omega)
            rw [Nat.add_mul,Nat.one_mul] at hm2
            have:=u2 j u hj
            rw [←Array.getElem?_toList] at this
            simp only [Nat.add_zero,List.getElem?_toArray]
            rw [List.append_assoc,List.getElem?_append_left (by rw [List.length_take]; simp only [Array.length_toList,g4]; omega),List.getElem?_take,if_pos (by omega),this]) k'
@[reducible] def Z2 (sz:Nat):Type:={cs:List Value // cs.length=sz∧LQ cs=true}
@[reducible] def nJ (sz:Nat):F0 (Z2 sz):=IR sz Subtype.val fun x=>x.2
structure RepR (El:F0 α) (I:IH) (css:List (Z2 El.sz)) (xs:List α):Prop where
 len:css.length=xs.length
 all:∀ (i:Nat) (x:α),xs[i]? = some x→∃ c:Z2 El.sz,css[i]? = some c∧El.rep I c.1 x
theorem RepR.mono {J:IH} {D:List (Z2 El.sz)} (h:RepR El I D xs) (G:I.le J):RepR El J D xs:=⟨h.len,fun i x U=>let ⟨c,V,O⟩:=h.all i x U; ⟨c,V,El.mono G O⟩⟩
theorem RepR.get {D:List (Z2 El.sz)} (h:RepR El I D xs) {i:Nat} {x:α} (O:xs[i]? = some x):∃ c J,D[i]? = some ⟨c,J⟩∧El.rep I c x:=
 let ⟨c,U,G⟩:=h.all i x O; ⟨c.1,c.2,U,G⟩
theorem RepR.set {D:List (Z2 El.sz)} (h:RepR El I D xs) (i:Nat) {x:α} {cs:List Value} (O:El.rep I cs x) (hp:cs.length=El.sz∧LQ cs=true):RepR El I (D.set i ⟨cs,hp⟩) (xs.set i x):=by
 refine ⟨by simp only [List.length_set]; exact h.len,fun j y G=>?_⟩
 by_cases e:i=j
 · subst e
   have J:i<xs.length:=by have:=(List.getElem?_eq_some_iff.1 G).1; simpa only [List.length_set] using this
   rw [List.getElem?_set_self J] at G; cases G
   exact ⟨⟨cs,hp⟩,List.getElem?_set_self (by have:=h.len; omega),O⟩
 · rw [List.getElem?_set_ne e] at G
   rw [List.getElem?_set_ne e]
   exact h.all j y G
theorem AdI {sz:Nat} {R:Nat→α→Z2 sz→Prop}:∀ {xs:List α},(∀ (i:Nat) (x:α),xs[i]? = some x→∃ c,R i x c)→∃ D:List (Z2 sz),D.length=xs.length∧∀ (i:Nat) (x:α),xs[i]? = some x→∃ c,D[i]? = some c∧R i x c:=by
 intro xs
 induction xs generalizing R with
 | nil=>exact fun _=>⟨[],rfl,fun i x h=>by simp at h⟩
 | cons W xs O=>
  intro h
  obtain ⟨J,h0⟩:=h 0 W rfl
  obtain ⟨D,Y,V⟩:=O (R:=fun i=>R (i+1)) fun i x G=>h (i+1) x (by simpa using G)
  refine ⟨J :: D,by simp [Y],fun i x G=>?_⟩
  cases i with
  | zero=>simp only [List.getElem?_cons_zero,Option.some.injEq] at G; subst G; exact ⟨J,rfl,h0⟩
  | succ i=>obtain ⟨c,Z,U⟩:=V i x (by simpa using G); exact ⟨c,by simpa using Z,U⟩
theorem Sym.openS (h:Sym w0 M I0 I (OwnSl El T a cap xs :: m) w):∃ D:List (Z2 El.sz),RepR El I D xs∧Sym w0 M I0 I (OwnSl (nJ El.sz) T a cap D :: m) w:=by
 obtain ⟨hb,hi,Z,k,⟨h1,h2,hd',hl1,hl2,ha,hs'⟩,hk,hdj,hm⟩:=h
 rcases ha with ⟨W,Y,g3⟩ | ⟨b,G,W,Y,g3,g4,g5⟩
 · subst Y
   exact ⟨[],⟨rfl,fun i x J=>by simp at J⟩,hb,hi,Z,k,⟨h1,h2,hd',hl1,hl2,.inl ⟨W,rfl,g3⟩,hs'⟩,hk,hdj,hm⟩
 · obtain ⟨D,e1,e2⟩:=AdI (sz:=El.sz) (R:=fun i x c=>El.rep I c.1 x∧∀ (j:Nat) (v:Value),c.1[j]? = some v→G[i*El.sz+j]? = some v) fun i x J=>by
    obtain ⟨cs,V,f2⟩:=g5 i x J
    exact ⟨⟨cs,El.len V,El.one V⟩,V,f2⟩
   refine ⟨D,⟨e1,fun i x J=>let ⟨c,O,U⟩:=e2 i x J; ⟨c,O,U.1⟩⟩,hb,hi,Z,k,⟨h1,h2,hd',hl1,hl2,.inr ⟨b,G,W,Y,by omega,g4,fun i c hc=>?_⟩,hs'⟩,hk,hdj,hm⟩
   have hlt:=(List.getElem?_eq_some_iff.1 hc).1
   obtain ⟨c',O,U⟩:=e2 i (xs[i]'(by omega)) (List.getElem?_eq_getElem _)
   rw [hc] at O; cases O
   exact ⟨c.1,rfl,U.2⟩
theorem Sym.closeS {D:List (Z2 El.sz)} (U:RepR El I D xs) (h:Sym w0 M I0 I (OwnSl (nJ El.sz) T a cap D :: m) w):Sym w0 M I0 I (OwnSl El T a cap xs :: m) w:=by
 obtain ⟨W,hi,Y,k,⟨h1,h2,hd',hl1,hl2,ha,hs'⟩,hk,hdj,hm⟩:=h
 refine ⟨W,hi,Y,k,⟨h1,h2,hd',hl1,hl2,?_,hs'⟩,hk,hdj,hm⟩
 rcases ha with ⟨J,O,V⟩ | ⟨b,G,J,O,V,Z,g5⟩
 · have:=U.len; rw [O] at this
   exact .inl ⟨J,List.eq_nil_of_length_eq_zero this.symm,V⟩
 · refine .inr ⟨b,G,J,O,by have:=U.len; omega,Z,fun i x hx=>?_⟩
   obtain ⟨c,q1,q2⟩:=U.all i x hx
   obtain ⟨cs,q3,q4⟩:=g5 i c q1
   cases q3
   exact ⟨c.1,q2,q4⟩
theorem Ops.openS (G:Del m (OwnSl El T a cap xs) m2) (k:∀ h:List (Z2 El.sz),RepR El I h xs→Ops P ops l n E (Sym w0 M I0 I (OwnSl (nJ El.sz) T a cap h :: m2)) Q):Ops P ops l n E (Sym w0 M I0 I m) Q:=by
 intro c w U J
 obtain ⟨h,O,D⟩:=(J.del G).openS
 exact k h O c w U D
theorem Cod.openS {c:Code} (G:Del m (OwnSl El T a cap xs) m2) (k:∀ h:List (Z2 El.sz),RepR El I h xs→Cod P c n E (Sym w0 M I0 I (OwnSl (nJ El.sz) T a cap h :: m2)) Q):Cod P c n E (Sym w0 M I0 I m) Q:=by
 intro c w U J
 obtain ⟨h,O,D⟩:=(J.del G).openS
 exact k h O c w U D
theorem Ops.closeS {h:List (Z2 El.sz)} (D:Del m (OwnSl (nJ El.sz) T a cap h) m2) (J:RepR El I h xs) (k:Ops P ops l n E (Sym w0 M I0 I (OwnSl El T a cap xs :: m2)) Q):Ops P ops l n E (Sym w0 M I0 I m) Q:=
 Ops.pre (fun _ G=>(G.del D).closeS J) k
end Go.Fw
