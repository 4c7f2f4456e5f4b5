/- The engine. -/
import Derived.Test.YtbohadngdkjljaaGreatFwC
namespace Go.Fw
open Go Go.RowKit
variable {w0 w:World} {M:Nat→Prop} {I0 I:IH} {m m':List HA}
variable {P:Program} {n:FrK} {E:DA} {Q:Exit→Act→World→Prop} {ops:Array Oper} {l:List Oper}
variable {d ty:Nat} {pos:String} {af:Array Edge} {T e:TypeId} {x y:Operand}
variable {T':TypeId}
structure F0 (α:Type) where
 sz:Nat
 rep:IH→List Value→α→Prop
 mono:∀ {I J:IH} {cs:List Value} {x:α},I.le J→rep I cs x→rep J cs x
 len:∀ {I:IH} {cs:List Value} {x:α},rep I cs x→cs.length=sz
 one:∀ {I:IH} {cs:List Value} {x:α},rep I cs x→LQ cs=true
def IR {α:Type} (sz:Nat) (enc:α→List Value) (h:∀ x,(enc x).length=sz∧LQ (enc x)=true):F0 α where
 sz:=sz
 rep _ cs x:=cs=enc x
 mono _ h:=h
 len h':=by rw [h']; exact (h _).1
 one h':=by rw [h']; exact (h _).2
variable {α:Type} {El:F0 α} {xs ys:List α} {a:Option Addr} {cap:Nat}
def RepSl (El:F0 α) (I:IH) (a:Option Addr) (cap:Nat) (xs:List α):Prop:=
 xs.length≤cap∧∀ i x,xs[i]? = some x→∃ b off cs,a=some ⟨b,off,none⟩∧ImC I b (off+i*El.sz) cs∧El.rep I cs x
theorem RepSl.mono {J:IH} (h:RepSl El I a cap xs) (D:I.le J):RepSl El J a cap xs:=
 ⟨h.1,fun i x O=>let ⟨b,off,cs,U,G,V⟩:=h.2 i x O; ⟨b,off,cs,U,G.mono D,El.mono D V⟩⟩
theorem RepSl.nil (I:IH) (a:Option Addr) (cap:Nat):RepSl El I a cap []:=⟨Nat.zero_le _,fun i x h=>by simp at h⟩
def JH (El:F0 α):F0 (List α) where
 sz:=1
 rep I cs xs:=∃ a cap,cs=[.slice a xs.length cap]∧RepSl El I a cap xs
 mono hle:=fun ⟨a,cap,h1,h2⟩=>⟨a,cap,h1,h2.mono hle⟩
 len:=fun ⟨a,cap,h1,_⟩=>by rw [h1]; rfl
 one:=fun ⟨a,cap,h1,_⟩=>by rw [h1]; rfl
def OwnSl (El:F0 α) (T:TypeId) (a:Option Addr) (cap:Nat) (xs:List α):HA where
 holds I h:=(a=none∧xs=[]∧cap=0)∨∃ b c,a=some ⟨b,0,none⟩∧h b=some (.cells c T (0,0))∧xs.length≤cap∧c.size=cap*El.sz ∧
  ∀ i x,xs[i]? = some x→∃ cs,El.rep I cs x∧∀ j v,cs[j]? = some v→c[i*El.sz+j]? = some v
 mono:=fun hI hh=>fun
  | .inl h=>.inl h
  | .inr ⟨b,c,h1,h2,h3,h4,h5⟩=>.inr ⟨b,c,h1,hh _ _ h2,h3,h4,fun i x hx=>let ⟨cs,g1,g2⟩:=h5 i x hx; ⟨cs,El.mono hI g1,g2⟩⟩
theorem Sym.own0 (h:Sym w0 M I0 I m w) (El:F0 α) (T:TypeId):Sym w0 M I0 I (OwnSl El T none 0 [] :: m) w:=by
 obtain ⟨D,hi,G,k,J,hk,U,O⟩:=h
 exact ⟨D,hi,G,k,⟨fun _=>none,k,fun _=>.inl rfl,(fun _ _ x=>nomatch x),IH.le.refl _,.inl ⟨rfl,rfl,rfl⟩,J⟩,hk,U,O⟩
theorem Sym.pubSl (h:Sym w0 M I0 I m w) (V:Del m (OwnSl El T a cap xs) m'):∃ D,I.le D∧RepSl El D a cap xs∧Sym w0 M I0 D m' w:=by
 obtain ⟨D,k,G,Z,hk,Y⟩:=(h.del V).publish
 refine ⟨D,G,?_,Y⟩
 rcases Z with ⟨U,J,O⟩ | ⟨b,c,U,J,O,h4,W⟩
 · subst J; exact .nil _ _ _
 · refine ⟨O,fun i x hx=>?_⟩
   obtain ⟨cs,g1,g2⟩:=W i x hx
   exact ⟨b,0,cs,U,⟨c,T,(0,0),hk _ _ J,fun j v hj=>by rw [Nat.zero_add]; exact g2 j v hj⟩,El.mono G g1⟩
theorem Ops.len {S:World→Prop} {k:Nat} {h:Array TypeId} (O:P.underlying T=some (.slice e)) (D:h[0]? = some T) (U:ev E x=some (.slice a k cap)) (G:Nat.blt d n.sz=true) (J:fresh E d=true)
  (V:Ops P ops l n ((d,.int .i64 (k:Int)) :: E) S Q):Ops P ops (⟨some d,.call ⟨.builtin .len,#[x],h⟩,ty,pos,af,none⟩ :: l) n E S Q:=
 Ops.val rfl rfl (fun c w W _=>by
  simp [execOp,resolve,invoke,builtin,Builtin.len_,W.eval U,D,run_underlying O,goInt]) G J V
theorem Ops.capOf {S:World→Prop} {k:Nat} {h:Array TypeId} (O:P.underlying T=some (.slice e)) (D:h[0]? = some T) (U:ev E x=some (.slice a k cap)) (G:Nat.blt d n.sz=true) (J:fresh E d=true)
  (V:Ops P ops l n ((d,.int .i64 (cap:Int)) :: E) S Q):Ops P ops (⟨some d,.call ⟨.builtin .cap,#[x],h⟩,ty,pos,af,none⟩ :: l) n E S Q:=
 Ops.val rfl rfl (fun c w W _=>by
  simp [execOp,resolve,invoke,builtin,Builtin.cap_,W.eval U,D,run_underlying O,goInt]) G J V
theorem Ops.ixa {S:World→Prop} {k s off b:Nat} {q:IntKind} {i:Int} (G:P.underlying T=some (.slice e)) (O:∀ w,(sizeOf e).run P w=.ok s w) (Y:ev E x=some (.slice a k cap)) (V:a=some ⟨b,off,none⟩)
  (U:ev E y=some (.int q i)) (h0:0≤i) (hk:i<k) (D:Nat.blt d n.sz=true) (W:fresh E d=true) (J:Ops P ops l n ((d,.pointer (some ⟨b,off+i.toNat*s,none⟩)) :: E) S Q) :
  Ops P ops (⟨some d,.indexAddr T x y,ty,pos,af,none⟩ :: l) n E S Q:=
 Ops.val rfl rfl (fun c w h _=>by
  subst V
  have Z:(⟨b,off,none⟩:Addr).add (i.toNat*s)=⟨b,off+i.toNat*s,none⟩:=by unfold Addr.add; split <;> simp_all
  simp only [execOp,Instr.indexAt,h.eval Y,h.eval U,asIntOf,Sem.run_bind,Sem.run_pure,Result.andThen_ok,run_underlying G,h0,hk,and_self,if_true,O,Z]) D W J
theorem OwnSl.cell {enc:α→List Value} {s:Nat} {he:∀ x,(enc x).length=s∧LQ (enc x)=true} {b:Nat} (h:Sym w0 M I0 I m w) (G:Del m (OwnSl (IR s enc he) T' (some ⟨b,0,none⟩) cap xs) m') {i j:Nat} {v:α} {u:Value}
   (hi:xs[i]? = some v) (W:(enc v)[j]? = some u):w.cell? ⟨b,i*s+j,none⟩=some u:=by
 obtain ⟨k1,O,hk⟩:=(h.del G).get
 rcases O with ⟨D,_⟩ | ⟨b',c,D,U,h3,h4,J⟩
 · cases D
 · cases D
   obtain ⟨cs,V,Y⟩:=J i v hi
   cases V
   rw [L9 (hk _ _ U)]
   exact Y j u W
theorem Ops.lo1 {enc:α→List Value} {s:Nat} {he:∀ x,(enc x).length=s∧LQ (enc x)=true} {b o i j:Nat} {v:α} {u:Value} (G:∀ w,(isAgg T).run P w=.ok false w)
  (D:Del m (OwnSl (IR s enc he) T' (some ⟨b,0,none⟩) cap xs) m') (hi:xs[i]? = some v) (W:ev E x=some (.pointer (some ⟨b,o,none⟩))) (U:o=i*s+j) (Y:(enc v)[j]? = some u)
  (h:Nat.blt d n.sz=true) (V:fresh E d=true) (k:Ops P ops l n ((d,u) :: E) (Sym w0 M I0 I m) Q):Ops P ops (⟨some d,.load T x,ty,pos,af,none⟩ :: l) n E (Sym w0 M I0 I m) Q:=
 Ops.val rfl rfl (fun c w J O=>by subst U; simp [execOp,J.eval W,O9 (P:=P) G (OwnSl.cell O D hi Y)]) h V k
theorem Ops.loA {enc:α→List Value} {s D:Nat} {he:∀ x,(enc x).length=s∧LQ (enc x)=true} {b o i j:Nat} {v:α} {vs:List Value} (U:∀ w,(isAgg T).run P w=.ok true w)
  (W:∀ w,(sizeOf T).run P w=.ok D w) (J:Del m (OwnSl (IR s enc he) T' (some ⟨b,0,none⟩) cap xs) m') (hi:xs[i]? = some v) (hx:ev E x=some (.pointer (some ⟨b,o,none⟩))) (Z:o=i*s+j)
  (hj:Cut (enc v) j vs) (hl:vs.length=D) (G:Nat.blt d n.sz=true) (hf:fresh E d=true) (k:Ops P ops l n ((d,.agg vs.toArray) :: E) (Sym w0 M I0 I m) Q) :
  Ops P ops (⟨some d,.load T x,ty,pos,af,none⟩ :: l) n E (Sym w0 M I0 I m) Q:=
 Ops.val rfl rfl (fun c w V Y=>by
  subst Z
  simp [execOp,V.eval hx,JG (P:=P) U W hl (fun O v' h=>by rw [Nat.add_assoc]; exact OwnSl.cell Y J hi (hj.get O v' h))]) G hf k
theorem OwnSl.put {El:F0 α} {b:Nat} {i j:Nat} {v v':α} {vs:List Value} {r:List HA} (h:Sym w0 M I0 I (OwnSl El T' (some ⟨b,0,none⟩) cap xs :: r) w)
   (hi:xs[i]? = some v) (hp:∀ cs,El.rep I cs v→∃ J,PutC cs j vs J∧El.rep I J v') (h1:LQ vs=true) :
   ∃ w',(storeCells ⟨b,i*El.sz+j,none⟩ vs).run P w=.ok () w'∧Sym w0 M I0 I (OwnSl El T' (some ⟨b,0,none⟩) cap (xs.set i v') :: r) w':=by
 obtain ⟨hb,Z,hn,k,⟨k1,k2,hd',hl1,hl2,ha,hs'⟩,hk,hdj,hm⟩:=h
 rcases ha with ⟨V,_⟩ | ⟨b',c,V,h2,h3,h4,h5⟩
 · cases V
 · cases V
   have W:Sym w0 M I0 I (Fw.pto b (.cells c T' (0,0)) :: r) w:=⟨hb,Z,hn,k,⟨k1,k2,hd',hl1,hl2,h2,hs'⟩,hk,hdj,hm⟩
   obtain ⟨cs,g1,g2⟩:=h5 i v hi
   obtain ⟨J,hput,O⟩:=hp cs g1
   obtain ⟨he,hle⟩:=hput.eq
   have hcl:=El.len g1
   have hlt:i<xs.length:=(List.getElem?_eq_some_iff.1 hi).1
   have hmul:i*El.sz+El.sz≤cap*El.sz:=by
     have:(i+1)*El.sz≤cap*El.sz:=Nat.mul_le_mul_right _ (by omega)
     rwa [Nat.add_mul,Nat.one_mul] at this
   have hr:=run_storeCells_at (P:=P) b (i*El.sz+j) T' vs 0 c w W.pto (by omega) (SN h1)
   refine ⟨_,hr,?_⟩
   have hup:=W.upd (o':=.cells (c.toList.take (i*El.sz+j+0)++vs++c.toList.drop (i*El.sz+j+0+vs.length)).toArray T' (0,0)) (w':=w.setRow b _) rfl rfl rfl rfl (by simp [World.setRow]) (fun q hq=>Fw.setRow_other hq) (setRow_heap w b _ _ T' _ W.pto)
   refine hup.weaken fun q hq=>.inr ⟨b,_,rfl,hq,by simpa using h3,?_,?_⟩
   · simp; omega
   · intro i2 x2 G
     by_cases e2:i=i2
     · subst e2
       rw [List.getElem?_set_self hlt] at G
       cases G
       refine ⟨J,O,fun U u D=>?_⟩
       rw [he] at D
       simp only [Nat.add_zero,List.getElem?_toArray]
       rcases Nat.lt_or_ge U j with h6 | h6
       · rw [List.append_assoc,List.getElem?_append_left (by simp; omega)] at D
         rw [List.append_assoc,List.getElem?_append_left (by simp; omega),List.getElem?_take,if_pos (by omega)]
         rw [List.getElem?_take,if_pos h6] at D
         simpa using g2 U u D
       · rcases Nat.lt_or_ge U (j+vs.length) with h7 | h7
         · rw [List.getElem?_append_left (by simp; omega),List.getElem?_append_right (by simp; omega)] at D ⊢
           simp only [List.length_take,Array.length_toList] at D ⊢
           rw [←D]; congr 1; omega
         · rw [List.getElem?_append_right (by simp; omega),List.getElem?_drop] at D ⊢
           simp only [List.length_append,List.length_take,Array.length_toList] at D ⊢
           have:=g2 U u (by rw [←D]; congr 1; omega)
           rw [←Array.getElem?_toList] at this
           rw [←this]; congr 1; omega
     · rw [List.getElem?_set_ne e2] at G
       obtain ⟨cs2,g3,g4⟩:=h5 i2 x2 G
       refine ⟨cs2,g3,fun U u D=>?_⟩
       have hj2l:U<El.sz:=by rw [←El.len g3]; exact (List.getElem?_eq_some_iff.1 D).1
       have h8:=g4 U u D
       rw [←Array.getElem?_toList] at h8
       simp only [Nat.add_zero,List.getElem?_toArray]
       rcases Nat.lt_or_gt_of_ne e2 with h9 | h9
       · have Y:(i+1)*El.sz≤i2*El.sz:=Nat.mul_le_mul_right _ h9
         rw [Nat.add_mul,Nat.one_mul] at Y
         rw [List.getElem?_append_right (by simp; omega),List.getElem?_drop,←h8]
         simp only [List.length_append,List.length_take,Array.length_toList]
         congr 1; omega
       · have Y:(i2+1)*El.sz≤i*El.sz:=Nat.mul_le_mul_right _ h9
         rw [Nat.add_mul,Nat.one_mul] at Y
         rw [List.append_assoc,List.getElem?_append_left (by simp; omega),List.getElem?_take,if_pos (by omega),h8]
theorem Ops.stO1 {enc:α→List Value} {s:Nat} {he:∀ x,(enc x).length=s∧LQ (enc x)=true} {b o i j:Nat} {v v':α} {u:Value} (hS:∀ w,(sizeOf T).run P w=.ok 1 w)
  (Z:At m (OwnSl (IR s enc he) T' (some ⟨b,0,none⟩) cap xs) m' (OwnSl (IR s enc he) T' (some ⟨b,0,none⟩) cap (xs.set i v'))) (hi:xs[i]? = some v) (hx:ev E x=some (.pointer (some ⟨b,o,none⟩))) (ho:o=i*s+j)
  (hy:ev E y=some u) (hp:PutC (enc v) j [u] (enc v')) (U:Fw.one u=true) (k:Ops P ops l n E (Sym w0 M I0 I m') Q):Ops P ops (⟨none,.store T x y,ty,pos,af,none⟩ :: l) n E (Sym w0 M I0 I m) Q:=
 Ops.act rfl rfl (fun c w O V=>by
  subst ho
  obtain ⟨r,W,h3⟩:=Z.del
  obtain ⟨w',Y,J⟩:=OwnSl.put (P:=P) (V.del W) hi (fun cs G=>by cases G; exact ⟨_,hp,rfl⟩) (by simp [LQ,U])
  refine ⟨w',?_,J.undel h3⟩
  have D:u.cells = #[u]:=by cases u <;> first | rfl | cases U
  have h:(storeCells ⟨b,i*s+j,none⟩ [u]).run P w=.ok () w':=Y
  simp [execOp,O.eval hx,O.eval hy,Instr.storeAt,Instr.sureAddr,storeVar,hS,D,h]) k
theorem Ops.stOA {enc:α→List Value} {s U:Nat} {he:∀ x,(enc x).length=s∧LQ (enc x)=true} {b o i j:Nat} {v v':α} {h:List Value} (hS:∀ w,(sizeOf T).run P w=.ok U w)
  (Z:At m (OwnSl (IR s enc he) T' (some ⟨b,0,none⟩) cap xs) m' (OwnSl (IR s enc he) T' (some ⟨b,0,none⟩) cap (xs.set i v'))) (hi:xs[i]? = some v) (hx:ev E x=some (.pointer (some ⟨b,o,none⟩))) (ho:o=i*s+j)
  (hy:ev E y=some (.agg h.toArray)) (hp:PutC (enc v) j h (enc v')) (hl:h.length=U) (h1:LQ h=true) (k:Ops P ops l n E (Sym w0 M I0 I m') Q):Ops P ops (⟨none,.store T x y,ty,pos,af,none⟩ :: l) n E (Sym w0 M I0 I m) Q:=
 Ops.act rfl rfl (fun c w O V=>by
  subst ho
  obtain ⟨r,W,h3⟩:=Z.del
  obtain ⟨w',Y,J⟩:=OwnSl.put (P:=P) (V.del W) hi (fun cs G=>by cases G; exact ⟨_,hp,rfl⟩) h1
  refine ⟨w',?_,J.undel h3⟩
  have D:(storeCells ⟨b,i*s+j,none⟩ h).run P w=.ok () w':=Y
  simp [execOp,O.eval hx,O.eval hy,Instr.storeAt,Instr.sureAddr,storeVar,hS,Value.cells,hl,D]) k
end Go.Fw
