/- The engine. -/
import Derived.Test.YtbohadngdkjljaaGreatFwD
namespace Go.Fw
open Go Go.RowKit
variable {w0 w:World} {M:Nat→Prop} {I0 I:IH} {m m':List HA}
variable {P:Program} {n:FrK} {E:D7} {Q:Exit→Act→World→Prop} {ops:Array Oper} {l:List Oper}
variable {d ty:Nat} {pos:String} {af:Array Edge} {T e:TypeId} {x y:Operand}
variable {α:Type} {El:ET α} {xs ys:List α} {a:Option Addr} {cap:Nat}
/-! ### s[lo:hi] -/
variable {T' sT e':TypeId} {zc:Value}
def qD (E:D7):Option Operand→Option (Option Value)
 | none=>some none
 | some x=>match ev E x with | some v=>some (some v) | none=>none
theorem NV {c:Act} (D:Ok n E c) {x:Option Operand} {v:Option Value} (h:qD E x=some v):x.map c.eval=v:=by
 cases x with
 | none=>simp [qD] at h; simp [h]
 | some x=>
  simp only [qD] at h
  cases hx:ev E x with
  | none=>rw [hx] at h; cases h
  | some u=>rw [hx] at h; cases h; simp [D.eval hx]
theorem RepSl.slice (h:RepSl El I a cap xs) {lo hi:Nat} (h1:lo≤hi) (h2:hi≤xs.length):RepSl El I (if cap=lo then a else a.map (·.add (lo*El.sz))) (cap - lo) ((xs.take hi).drop lo):=by
 have hc:=h.1
 refine ⟨by simp; omega,fun i x D=>?_⟩
 rw [List.getElem?_drop,List.getElem?_take] at D
 split at D
 · rename_i U
   obtain ⟨b,off,cs,O,G,J⟩:=h.2 _ _ D
   have:¬cap=lo:=by
     have:=(List.getElem?_eq_some_iff.1 D).1
     omega
   rw [if_neg this]
   refine ⟨b,off+lo*El.sz,cs,?_,?_,J⟩
   · rw [O]; simp only [Option.map_some,Addr.add]; split <;> simp_all
   · rw [Nat.add_mul] at G; rw [Nat.add_assoc]; exact G
 · cases D
theorem eR {lo hi:Option Value} {L H k s:Nat} (hT:P.underlying T=some (.slice e)) (hs:∀ w,(sizeOf e).run P w=.ok s w) (h1:L≤H) (h2:H≤k) (hk:k≤cap)
  (D:lo=none∧L=0∨∃ q i,lo=some (.int q i)∧0≤i∧i.toNat=L) (h:hi=none∧H=k∨∃ q i,hi=some (.int q i)∧0≤i∧i.toNat=H) (w:World) :
  (Instr.sliceAt T (.slice a k cap) lo hi none).run P w=.ok (.slice (if cap=L then a else a.map (·.add (L*s))) (H - L) (cap - L)) w:=by
 have G:(Instr.sliceBounds true k cap lo hi none).run P w=.ok (L,H,cap) w:=by
  simp only [Instr.sliceBounds]
  rcases h with ⟨rfl,rfl⟩ | ⟨q,i,rfl,W,J⟩ <;> rcases D with ⟨rfl,rfl⟩ | ⟨q',V,rfl,O,U⟩
  · simp
  · have:V≤(H:Int):=by omega
    simp [Instr.sliceBound,asIntOf,O,this,U]
  · have:i≤(cap:Int):=by omega
    simp [Instr.sliceBound,asIntOf,W,this,J]
  · have Y:i≤(cap:Int):=by omega
    have Z:V≤(H:Int):=by omega
    simp [Instr.sliceBound,asIntOf,W,Y,O,Z,J,U]
 simp only [Instr.sliceAt,Sem.run_bind,run_underlying hT,Result.andThen_ok,Instr.slice,G,hs,Sem.run_pure]
def RepCs (El:ET α) (I:IH) (src:List Value) (ys:List α):Prop:=
 src.length=ys.length*El.sz∧(∀ i y,ys[i]? = some y→∃ cs,El.rep I cs y∧∀ j v,cs[j]? = some v→src[i*El.sz+j]? = some v)∧LM src=true
theorem nG {a b:List Value} (h:LM a=true) (k:LM b=true):LM (a++b)=true:=by
 induction a with
 | nil=>exact k
 | cons v a D=>simp only [LM,Bool.and_eq_true,List.cons_append] at h ⊢; exact ⟨h.1,D h.2⟩
theorem RepCs.nil:RepCs El I [] ([]:List α):=⟨by simp,fun i y h=>by simp at h,rfl⟩
theorem RepCs.cons {cs src:List Value} {v:α} {vs:List α} (h:El.rep I cs v) (k:RepCs El I src vs):RepCs El I (cs++src) (v :: vs):=by
 have J:=El.len h
 refine ⟨by simp [k.1,J,Nat.add_mul,Nat.add_comm],fun i y G=>?_,nG (El.one h) k.2.2⟩
 cases i with
 | zero=>
  simp at G; subst G
  exact ⟨cs,h,fun j u D=>by rw [Nat.zero_mul,Nat.zero_add,List.getElem?_append_left (List.getElem?_eq_some_iff.1 D).1]; exact D⟩
 | succ i=>
  obtain ⟨O,U,V⟩:=k.2.1 i y (by simpa using G)
  refine ⟨O,U,fun j u D=>?_⟩
  rw [List.getElem?_append_right (by rw [J,Nat.add_mul]; omega),←V j u D]
  congr 1; rw [J,Nat.add_mul]; omega
theorem RepCs.one {cs:List Value} {v:α} (h:El.rep I cs v):RepCs El I cs [v]:=by
 have:=RepCs.cons h (RepCs.nil (El:=El) (I:=I)); rwa [List.append_nil] at this
def Src (P:Program) (El:ET α) (I:IH) (S:World→Prop) (v:Value) (ys:List α):Prop:=
 (∃ b k c,v=.slice b k c∧k=ys.length)∧∃ src,RepCs El I src ys∧∀ w,S w→∀ w':World,w'.heap=w.heap→(Builtin.firstCells El.sz ys.length v).run P w'=.ok src.toArray w'
theorem Src.imm {k:Nat} (hR:RepSl El I a cap ys) (hk:k=ys.length):Src P El I (Sym w0 M I0 I m) (.slice a k cap) ys:=by
 subst hk
 refine ⟨⟨_,_,_,rfl,rfl⟩,?_⟩
 suffices H:∀ (U:List α) (o:Nat),(∀ i x,U[i]? = some x→∃ b off cs,a=some ⟨b,off,none⟩∧ImC I b (off+(o+i)*El.sz) cs∧El.rep I cs x) →
    ∃ src,RepCs El I src U∧∀ w,Sym w0 M I0 I m w→∀ j v,src[j]? = some v→∃ b off,a=some ⟨b,off,none⟩∧w.cell? ⟨b,off+o*El.sz+j,none⟩=some v by
  obtain ⟨src,J,Y⟩:=H ys 0 (fun i x hx=>by simpa using hR.2 i x hx)
  refine ⟨src,J,fun w1 V w W=>?_⟩
  cases a with
  | none=>
    cases ys with
    | nil=>have:=J.1; simp at this; subst this; simp [Builtin.firstCells]
    | cons y ys=>obtain ⟨_,_,_,g,_⟩:=hR.2 0 y (by simp); cases g
  | some p=>
    simp only [Builtin.firstCells]
    rw [←J.1]
    refine run_loadCells_list w p src fun j v G=>?_
    obtain ⟨b,off,g1,D⟩:=Y w1 V j v G
    have g2':w.cell? ⟨b,off+0*El.sz+j,none⟩=some v:=by simp only [World.cell?,W]; exact D
    clear D; have D:=g2'
    cases g1
    rw [Nat.zero_mul,Nat.add_zero] at D
    have e2:(⟨b,off,none⟩:Addr).add j=⟨b,off+j,none⟩:=by unfold Addr.add; split <;> simp_all
    rw [e2]; exact D
 intro U
 induction U with
 | nil=>exact fun o _=>⟨[],.nil,fun w _ j v h=>by simp at h⟩
 | cons z U ih=>
  intro o h
  obtain ⟨src,J,Y⟩:=ih (o+1) (fun i x hx=>by
    have:=h (i+1) x (by simpa using hx)
    rwa [show o+(i+1)=o+1+i by omega] at this)
  obtain ⟨b,off,cs,g1,D,g3⟩:=h 0 z (by simp)
  refine ⟨cs++src,.cons g3 J,fun w V j v G=>?_⟩
  have hl:=El.len g3
  rcases Nat.lt_or_ge j cs.length with Z | Z
  · rw [List.getElem?_append_left Z] at G
    exact ⟨b,off,g1,by simpa using D.cell V G⟩
  · rw [List.getElem?_append_right Z] at G
    obtain ⟨b',O,g4,g5⟩:=Y w V _ v G
    refine ⟨b',O,g4,?_⟩
    rw [←g5]; congr 2; rw [Nat.add_mul]; omega
theorem Src.box {b:Nat} {src:List Value} {k:Nat} (U:Del m (Fw.pto b (.cells src.toArray T' (0,0))) m') (G:RepCs El I src ys) (hk:k=ys.length) :
  Src P El I (Sym w0 M I0 I m) (.slice (some ⟨b,0,none⟩) k cap) ys:=by
 subst hk
 refine ⟨⟨_,_,_,rfl,rfl⟩,src,G,fun w1 J w D=>?_⟩
 simp only [Builtin.firstCells]
 rw [←G.1]
 refine run_loadCells_list w _ src fun j v O=>?_
 have e:(⟨b,0,none⟩:Addr).add j=⟨b,j,none⟩:=by unfold Addr.add; split <;> simp_all
 have h:=(J.del U).pto
 rw [←D] at h
 rw [e,L9 h]; simpa using O
theorem kM {z:Array Value} {s:Nat} (k:Nat) (h:z.size=s):(Builtin.zeroCells z k).size=k*s:=by simp [Builtin.zeroCells,h]
theorem LB {ty':TypeId} {k kv cv:Nat} {bv:Option Addr} {src:Array Value} {s:Nat} {w':World} (U:P.underlying sT=some (.slice e)) (G:P.underlying T'=some (.slice e')) (J:∀ w,(sizeOf e).run P w=.ok s w)
  (D:k+kv≤cap) (h:(Builtin.firstCells s kv (.slice bv kv cv)).run P w=.ok src w) (V:∀ p,a=some p→(storeCells (p.add (k*s)) src.toList).run P w=.ok () w') (W:a=none→w'=w) :
  (Builtin.append_ #[sT,T'] ty' #[.slice a k cap,.slice bv kv cv]).run P w=.ok (.slice a (k+kv) cap) w':=by
 have O:∀ w,(Builtin.lenOf (.slice bv kv cv)).run P w=.ok kv w:=fun w=>rfl
 cases a with
 | none=>simp [Builtin.append_,run_underlying U,run_underlying G,J,O,D,h,W rfl]
 | some p=>simp [Builtin.append_,run_underlying U,run_underlying G,J,O,D,h,V p rfl]
theorem eS {ty':TypeId} {k kv cv:Nat} {bv:Option Addr} {src old:Array Value} {s B:Nat} {i:TypeInfo} (hT:P.underlying sT=some (.slice e)) (V:P.underlying T'=some (.slice e')) (hi:P.info? e=some i)
  (hs:i.size=s) (hB:i.bytes=B) (hz:i.zero=some zc) (h:¬k+kv≤cap) (J:(k+kv)*B≤140737488355328) (h63:((k+kv:Nat):Int)≤9223372036854775807)
  (G:∀ w':World,w'.heap=w.heap→(Builtin.firstCells s k (.slice a k cap)).run P w'=.ok old w') (D:∀ w':World,w'.heap=w.heap→(Builtin.firstCells s kv (.slice bv kv cv)).run P w'=.ok src w') :
  ∃ c dr,k+kv≤c∧w.drawn≤dr∧(Builtin.append_ #[sT,T'] ty' #[.slice a k cap,.slice bv kv cv]).run P w =
   .ok (.slice (some ⟨w.heap.size,0,none⟩) (k+kv) c) (({ w with drawn:=dr }:World).alloc (.cells (old++src++Builtin.zeroCells zc.cells (c - (k+kv))) e)):=by
 have Z:∀ w,(sizeOf e).run P w=.ok s w:=fun w=>by simp [sizeOf,typeInfo,hi,hs]
 have O:∀ w,(typeInfo e).run P w=.ok i w:=fun w=>by simp [typeInfo,hi]
 have U:∀ w,(zeroValue e).run P w=.ok zc w:=fun w=>by simp [zeroValue,O,hz]
 have Y:=growslice_fits (Nat.lt_of_not_le h) J
 have hl:∀ w,(Builtin.lenOf (.slice bv kv cv)).run P w=.ok kv w:=fun w=>rfl
 have g1:¬(281474976710656<Builtin.nextslicecap (k+kv) cap*B):=by omega
 have g2:¬(9223372036854775807<(k:Int)+(kv:Int)):=by omega
 have hq:(Question.appendCap (k+kv) cap e).forced=false:=rfl
 refine ⟨(Question.appendCap (k+kv) cap e).cut (w.tape w.drawn (Question.appendCap (k+kv) cap e)),w.drawn+1,Nat.le_add_right _ _,Nat.le_succ _,?_⟩
 have W:IntKind.i64.max=9223372036854775807:=rfl
 have ho:=G w.drew rfl
 have hr:=D w.drew rfl
 simp only [Builtin.append_,List.getElem?_toArray,List.getElem?_cons_zero,List.getElem?_cons_succ,Sem.run_bind,run_underlying hT,run_underlying V,Result.andThen_ok,Sem.run_pure,Z,hl,h,if_false,Bool.false_eq_true,O,hB,g1,g2,false_and,false_or,W,Int.natCast_add]
 simp [run_choose,hq,ho,hr,U,newRow]
theorem Sym.append {ty':TypeId} {v:Value} {r:List HA} {B:Nat} {i:TypeInfo} (h:Sym w0 M I0 I (OwnSl El e a cap xs :: r) w)
   (hT:P.underlying sT=some (.slice e)) (hT':P.underlying T'=some (.slice e')) (hi:P.info? e=some i) (hsz:i.size=El.sz) (hB:i.bytes=B) (hz:i.zero=some zc) (hzc:zc.cells.size=El.sz)
   (hv:∃ b k c,v=.slice b k c∧k=ys.length) {src:List Value} (D:RepCs El I src ys) (U:∀ w':World,w'.heap=w.heap→(Builtin.firstCells El.sz ys.length v).run P w'=.ok src.toArray w')
   (hlim:(xs.length+ys.length)*B≤140737488355328) (h63:B=0→xs.length+ys.length≤140737488355328) {k:Nat} (hk:k=xs.length) :
   ∃ a' V w',(Builtin.append_ #[sT,T'] ty' #[.slice a k cap,v]).run P w=.ok (.slice a' (xs++ys).length V) w'∧Sym w0 M I0 I (OwnSl El e a' V (xs++ys) :: r) w'∧(xs.length+ys.length≤cap→a'=a∧V=cap):=by
 subst hk
 obtain ⟨bv,kv,cv,rfl,rfl⟩:=hv
 have hso:∀ w,(sizeOf e).run P w=.ok El.sz w:=fun w=>by simp [sizeOf,typeInfo,hi,hsz]
 obtain ⟨k1,hk1,hk1w⟩:=h.get
 rw [List.length_append]
 by_cases hfit:xs.length+ys.length≤cap
 · -- there is room
   rcases hk1 with ⟨h1,h2,h3⟩ | ⟨b,c,h1,h2,h3,h4,h5⟩
   · subst h1 h2 h3
     have hy:ys=[]:=List.eq_nil_of_length_eq_zero (by simpa using hfit)
     subst hy
     exact ⟨none,0,w,LB hT hT' hso hfit (U w rfl) (fun p hp=>by cases hp) (fun _=>rfl),h,fun _=>⟨rfl,rfl⟩⟩
   · subst h1
     obtain ⟨hb,himm,hn,kk,⟨g1,g2,hd',hl1,hl2,ha,hs'⟩,hkk,hdj,hm⟩:=h
     rcases ha with ⟨h1',_⟩ | ⟨b',c',h1',h2',h3',h4',h5'⟩
     · cases h1'
     cases h1'
     have hpt:Sym w0 M I0 I (Fw.pto b (.cells c' e (0,0)) :: r) w:=⟨hb,himm,hn,kk,⟨g1,g2,hd',hl1,hl2,h2',hs'⟩,hkk,hdj,hm⟩
     have hmul:xs.length*El.sz+ys.length*El.sz≤cap*El.sz:=by rw [←Nat.add_mul]; exact Nat.mul_le_mul_right _ hfit
     have hr:=run_storeCells_at (P:=P) b (xs.length*El.sz) e src 0 c' w hpt.pto (by rw [h4',D.1]; omega) (SS D.2.2)
     have e1:(⟨b,0,none⟩:Addr).add (xs.length*El.sz)=⟨b,xs.length*El.sz,none⟩:=by unfold Addr.add; split <;> simp_all
     refine ⟨some ⟨b,0,none⟩,cap,_,LB hT hT' hso hfit (U w rfl) (fun p hp=>by cases hp; rw [e1]; exact hr) (fun h=>by cases h),?_,fun _=>⟨rfl,rfl⟩⟩
     have hup:=hpt.upd (o':=.cells (c'.toList.take (xs.length*El.sz+0)++src++c'.toList.drop (xs.length*El.sz+0+src.length)).toArray e (0,0)) (w':=w.setRow b _) rfl rfl rfl rfl (by simp [World.setRow]) (fun q hq=>Fw.setRow_other hq) (setRow_heap w b _ _ e _ hpt.pto)
     refine hup.weaken fun q hq=>.inr ⟨b,_,rfl,hq,by simpa using hfit,?_,?_⟩
     · simp [D.1]; omega
     · intro W x2 G
       simp only [Nat.add_zero,List.getElem?_toArray]
       rcases Nat.lt_or_ge W xs.length with h6 | h6
       · rw [List.getElem?_append_left h6] at G
         obtain ⟨cs,O,Z⟩:=h5' W x2 G
         refine ⟨cs,O,fun j u J=>?_⟩
         have hjl:j<El.sz:=by rw [←El.len O]; exact (List.getElem?_eq_some_iff.1 J).1
         have hm2:(W+1)*El.sz≤xs.length*El.sz:=Nat.mul_le_mul_right _ h6
         rw [Nat.add_mul,Nat.one_mul] at hm2
         have:=Z j u J
         rw [←Array.getElem?_toList] at this
         rw [List.append_assoc,List.getElem?_append_left (by simp; omega),List.getElem?_take,if_pos (by omega),this]
       · rw [List.getElem?_append_right h6] at G
         obtain ⟨cs,O,Z⟩:=D.2.1 _ x2 G
         refine ⟨cs,O,fun j u J=>?_⟩
         have h7:=Z j u J
         have h8:=(List.getElem?_eq_some_iff.1 h7).1
         have e3:W*El.sz=xs.length*El.sz+(W - xs.length)*El.sz:=by rw [←Nat.add_mul]; congr 1; omega
         rw [List.append_assoc,List.getElem?_append_right (by simp; omega),List.getElem?_append_left (by simp; omega),←h7]
         simp only [List.length_take,Array.length_toList]
         congr 1; omega
 · -- a new array
   have hold:∃ old:List Value,(∀ w':World,w'.heap=w.heap→(Builtin.firstCells El.sz xs.length (.slice a xs.length cap)).run P w'=.ok old.toArray w')∧old.length=xs.length*El.sz ∧
       ∀ i x,xs[i]? = some x→∃ cs,El.rep I cs x∧∀ j v,cs[j]? = some v→old[i*El.sz+j]? = some v:=by
     rcases hk1 with ⟨h1,h2,h3⟩ | ⟨b,c,h1,h2,h3,h4,h5⟩
     · subst h1 h2 h3; exact ⟨[],fun w' _=>by simp [Builtin.firstCells],by simp,fun i x h=>by simp at h⟩
     · subst h1
       have hcap:xs.length*El.sz≤c.size:=by rw [h4]; exact Nat.mul_le_mul_right _ h3
       refine ⟨c.toList.take (xs.length*El.sz),fun w' hw'=>?_,by simp; omega,fun i x hx=>?_⟩
       · simp only [Builtin.firstCells]
         have hlt:(c.toList.take (xs.length*El.sz)).length=xs.length*El.sz:=by rw [List.length_take]; exact Nat.min_eq_left (by simpa using hcap)
         have:=run_loadCells_list (P:=P) w' ⟨b,0,none⟩ (c.toList.take (xs.length*El.sz)) (fun j v J=>by
          have e1:(⟨b,0,none⟩:Addr).add j=⟨b,j,none⟩:=by unfold Addr.add; split <;> simp_all
          have hb':w'.heap[b]? = some (.cells c e (0,0)):=by rw [hw']; exact hk1w _ _ h2
          rw [e1,L9 hb']
          rw [List.getElem?_take] at J
          split at J
          · simpa using J
          · cases J)
         rwa [hlt] at this
       · obtain ⟨cs,O,Z⟩:=h5 i x hx
         refine ⟨cs,O,fun j u J=>?_⟩
         have hjl:j<El.sz:=by rw [←El.len O]; exact (List.getElem?_eq_some_iff.1 J).1
         have hil:=(List.getElem?_eq_some_iff.1 hx).1
         have hm2:(i+1)*El.sz≤xs.length*El.sz:=Nat.mul_le_mul_right _ hil
         rw [Nat.add_mul,Nat.one_mul] at hm2
         rw [List.getElem?_take,if_pos (by omega)]
         simpa using Z j u J
   obtain ⟨old,ho1,Y,ho3⟩:=hold
   have h63':((xs.length+ys.length:Nat):Int)≤9223372036854775807:=by
     by_cases hB0:B=0
     · have:=h63 hB0; omega
     · have:xs.length+ys.length≤(xs.length+ys.length)*B:=Nat.le_mul_of_pos_right _ (Nat.pos_of_ne_zero hB0)
       omega
   obtain ⟨c,dr,hc,hdr,hr⟩:=eS (w:=w) (ty':=ty') (bv:=bv) (cv:=cv) hT hT' hi hsz hB hz hfit hlim h63' ho1 U
   refine ⟨_,_,_,hr,?_,fun h=>absurd h hfit⟩
   refine ((h.drop.drew dr hdr).alloc _).weaken fun q hq=>.inr ⟨_,_,rfl,hq,by simpa using hc,?_,?_⟩
   · have hzsz:=kM (c - (xs.length+ys.length)) hzc
     simp only [Array.size_append,List.size_toArray,Y,D.1,hzsz]
     rw [←Nat.add_mul,←Nat.add_mul]; congr 1; omega
   · intro W x2 G
     rcases Nat.lt_or_ge W xs.length with h6 | h6
     · rw [List.getElem?_append_left h6] at G
       obtain ⟨cs,O,Z⟩:=ho3 W x2 G
       refine ⟨cs,O,fun j u J=>?_⟩
       have h7:=Z j u J
       have h8:=(List.getElem?_eq_some_iff.1 h7).1
       rw [Array.append_assoc,Array.getElem?_append_left (by simpa using h8)]
       simpa using h7
     · rw [List.getElem?_append_right h6] at G
       obtain ⟨cs,O,Z⟩:=D.2.1 _ x2 G
       refine ⟨cs,O,fun j u J=>?_⟩
       have h7:=Z j u J
       have h8:=(List.getElem?_eq_some_iff.1 h7).1
       have e3:W*El.sz=xs.length*El.sz+(W - xs.length)*El.sz:=by rw [←Nat.add_mul]; congr 1; omega
       rw [Array.append_assoc,Array.getElem?_append_right (by simp [Y]; omega),Array.getElem?_append_left (by simp [Y]; omega)]
       rw [←h7]
       simp only [List.size_toArray,Y,List.getElem?_toArray]
       congr 1; omega
theorem Ops.append {i:TypeInfo} {v:Value} {J:Array TypeId} {k:Nat} (B:Nat) (hA:Del m (OwnSl El e a cap xs) m') (hT:P.underlying sT=some (.slice e)) (V:P.underlying T'=some (.slice e')) (hi:P.info? e=some i)
  (hsz:i.size=El.sz) (hB:i.bytes=B) (hz:i.zero=some zc) (hzc:zc.cells.size=El.sz) (Z:Nat.blt 0 B=true) (D:J = #[sT,T']) (hx:ev E x=some (.slice a k cap)) (hk:k=xs.length) (hy:ev E y=some v) (hS:Src P El I (Sym w0 M I0 I m) v ys)
  (G:(xs.length+ys.length)*B≤140737488355328) (hb:Nat.blt d n.sz=true) (hf:fresh E d=true)
  (k':∀ a' h,Ops P ops l n ((d,.slice a' (xs++ys).length h) :: E) (Sym w0 M I0 I (OwnSl El e a' h (xs++ys) :: m')) Q) :
  Ops P ops (⟨some d,.call ⟨.builtin .append,#[x,y],J⟩,ty,pos,af,none⟩ :: l) n E (Sym w0 M I0 I m) Q:=
 Ops.valx (fun v w'=>∃ a' h,v=.slice a' (xs++ys).length h∧Sym w0 M I0 I (OwnSl El e a' h (xs++ys) :: m') w') rfl rfl
  (fun c w U O=>by
   obtain ⟨W,src,h1,h2⟩:=hS
   obtain ⟨a',h,w',hr,Y,_⟩:=(O.del hA).append (P:=P) (ty':=ty) hT V hi hsz hB hz hzc W h1 (h2 w O) G (fun h0=>by subst h0; cases Z) hk
   subst D
   refine ⟨_,w',?_,a',h,rfl,Y⟩
   have e:(#[x,y].map c.eval) = #[.slice a k cap,v]:=by simp [U.eval hx,U.eval hy]
   simp only [execOp,resolve,e,Sem.run_bind,Sem.run_pure,Result.andThen_ok,invoke,builtin,hr]) hb hf
  (fun v c w U ⟨a',h,W,O⟩=>by subst W; exact k' a' h c w U O)
end Go.Fw
