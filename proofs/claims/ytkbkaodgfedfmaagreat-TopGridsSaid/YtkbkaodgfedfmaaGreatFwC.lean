/- The engine. -/
import Derived.Test.YtkbkaodgfedfmaaGreatFwB
import Derived.Laws.CopyRow
namespace Go.Fw
open Go Go.RowKit
variable {w0 w:World} {M:Nat→Prop} {I0 I:IH} {m m':List HA}
variable {P:Program} {n:FrK} {E:CZ} {Q:Exit→Act→World→Prop} {ops:Array Oper} {l:List Oper}
variable {d ty:Nat} {pos:String} {af:Array Edge} {T:TypeId} {x y:Operand}
/-! ### Cells by lists -/
variable {T':TypeId} {fs:Array Field} {cs':List Value} {fz:Nat×Nat}
inductive Cut:List Value→Nat→List Value→Prop
 | nil {cs:List Value}:Cut cs 0 []
 | t {c:Value} {cs vs:List Value}:Cut cs 0 vs→Cut (c :: cs) 0 (c :: vs)
 | s {c:Value} {cs vs:List Value} {k:Nat}:Cut cs k vs→Cut (c :: cs) (k+1) vs
theorem Cut.get {cs vs:List Value} {k:Nat} (h:Cut cs k vs):∀ j v,vs[j]? = some v->cs[k+j]? = some v:=by
 induction h with
 | nil=>intro j v h; simp at h
 | t h J=>
  intro j v D
  cases j with
  | zero=>simpa using D
  | succ j=>have:=J j v (by simpa using D); simpa[Nat.add_comm,Nat.add_left_comm] using this
 | s h J=>intro j v D; have:=J j v D; rw[Nat.add_right_comm]; simpa using this
inductive PutC:List Value→Nat→List Value→List Value→Prop
 | nil {cs:List Value}:PutC cs 0 [] cs
 | t {c v:Value} {cs vs cs':List Value}:PutC cs 0 vs cs'→PutC (c :: cs) 0 (v :: vs) (v :: cs')
 | s {c:Value} {cs vs cs':List Value} {k:Nat}:PutC cs k vs cs'→PutC (c :: cs) (k+1) vs (c :: cs')
theorem PutC.eq {cs vs:List Value} {k:Nat} (h:PutC cs k vs cs'):cs'=cs.take k++vs++cs.drop (k+vs.length)∧k+vs.length<=cs.length:=by
 induction h with
 | nil=>simp
 | t h D=>obtain⟨D,J⟩:=D; simp at D J ⊢; exact⟨by simpa using D,J⟩
 | s h D=>
  obtain⟨D,J⟩:=D;refine⟨?_,by simp at J ⊢; omega⟩;rw[D,Nat.add_right_comm]; simp
def one (v:Value):Bool:=v.oneCell'
def N1:List Value->Bool
 | []=>true
 | v :: vs=>one v && N1 vs
theorem VI {vs:List Value} (h:N1 vs=true):∀ v∈vs,v.oneCell'=true:=by
 induction vs with
 | nil=>intro v D; cases D
 | cons u vs J=>
  simp only[N1,Bool.and_eq_true] at h;intro v D
  cases D with
  | head=>exact h.1
  | tail _ D=>exact J h.2 v D
theorem PO {b off:Nat} {v:Value} (D:∀ w,(isAgg T).run P w=.ok false w) (h:w.cell? ⟨b,off,none⟩=some v):(Instr.loadAt T (.pointer (some ⟨b,off,none⟩))).run P w=.ok v w:=by simp[Instr.loadAt,Instr.sureAddr,loadVar,D,h]
theorem JY {b off s:Nat} {vs:List Value} (K:∀ w,(isAgg T).run P w=.ok true w) (D:∀ w,(sizeOf T).run P w=.ok s w) (U:vs.length=s) (J:∀ j v,vs[j]? = some v->w.cell? ⟨b,off+j,none⟩=some v) :
  (Instr.loadAt T (.pointer (some ⟨b,off,none⟩))).run P w=.ok (.agg vs.toArray) w:=by
 subst U
 have h:=run_loadCells_list (P:=P) w ⟨b,off,none⟩ vs (λj v O=>by
  have:=J j v O;have e:(⟨b,off,none⟩:Addr).add j=⟨b,off+j,none⟩:=by unfold Addr.add; split <;> simp_all
  rw[e]; exact this)
 simp[Instr.loadAt,Instr.sureAddr,loadVar,K,D,h]
theorem LU {b off:Nat} {cs:Array Value} {t:TypeId} (h:w.heap[b]? = some (.cells cs t fz)):w.cell? ⟨b,off,none⟩=cs[off]?:=by simp[World.cell?,h]
theorem Ops.allocA {z:Array Value} (O:∀ w,(zeroValue T).run P w=.ok (.agg z) w) (D:Nat.blt d n.sz=true) (J:fresh E d=true)
  (k:∀ b,Ops P ops l n ((d,.pointer (some ⟨b,0,none⟩)) :: E) (Sym w0 M I0 I (pto b (.cells z T) :: m)) Q) :
  Ops P ops (⟨some d,.alloc T,ty,pos,af,none⟩ :: l) n E (Sym w0 M I0 I m) Q:=
 Ops.valx (λv w'=>∃ b,v=.pointer (some ⟨b,0,none⟩)∧Sym w0 M I0 I (pto b (.cells z T) :: m) w') rfl rfl
  (λa w _ h=>⟨.pointer (some ⟨w.heap.size,0,none⟩),w.alloc (.cells z T),by simp[execOp,Instr.alloc,O,newVar,newRow,Value.cells],_,rfl,h.alloc _⟩) D J
  (λv a w U ⟨b,K,h⟩=>by subst K; exact k b a w U h)
theorem Ops.alloc1 {z:Value} (U:∀ w,(zeroValue T).run P w=.ok z w) (W:one z=true) (J:Nat.blt d n.sz=true) (K:fresh E d=true)
  (k:∀ b,Ops P ops l n ((d,.pointer (some ⟨b,0,none⟩)) :: E) (Sym w0 M I0 I (pto b (.cells #[z] T) :: m)) Q) :
  Ops P ops (⟨some d,.alloc T,ty,pos,af,none⟩ :: l) n E (Sym w0 M I0 I m) Q:=
 Ops.valx (λv w'=>∃ b,v=.pointer (some ⟨b,0,none⟩)∧Sym w0 M I0 I (pto b (.cells #[z] T) :: m) w') rfl rfl
  (λa w _ h=>⟨.pointer (some ⟨w.heap.size,0,none⟩),w.alloc (.cells #[z] T),by
   have D:z.cells = #[z]:=by cases z <;> first | rfl | cases W
   simp[execOp,Instr.alloc,U,newVar,newRow,D],_,rfl,h.alloc _⟩) J K
  (λv a w V ⟨b,O,h⟩=>by subst O; exact k b a w V h)
theorem Ops.boxA {z:Array Value} (U:ev E x=some (.agg z)) (J:Nat.blt d n.sz=true) (K:fresh E d=true)
  (k:∀ b,Ops P ops l n ((d,.pointer (some ⟨b,0,none⟩)) :: E) (Sym w0 M I0 I (pto b (.cells z T) :: m)) Q) :
  Ops P ops (⟨some d,.box T x,ty,pos,af,none⟩ :: l) n E (Sym w0 M I0 I m) Q:=
 Ops.valx (λv w'=>∃ b,v=.pointer (some ⟨b,0,none⟩)∧Sym w0 M I0 I (pto b (.cells z T) :: m) w') rfl rfl
  (λa w D h=>⟨.pointer (some ⟨w.heap.size,0,none⟩),w.alloc (.cells z T),by simp[execOp,Instr.box,D.eval U,newVar,newRow,Value.cells],_,rfl,h.alloc _⟩) J K
  (λv a w D ⟨b,O,h⟩=>by subst O; exact k b a w D h)
theorem Ops.box1 {z:Value} (U:ev E x=some z) (W:one z=true) (K:Nat.blt d n.sz=true) (O:fresh E d=true)
  (k:∀ b,Ops P ops l n ((d,.pointer (some ⟨b,0,none⟩)) :: E) (Sym w0 M I0 I (pto b (.cells #[z] T) :: m)) Q) :
  Ops P ops (⟨some d,.box T x,ty,pos,af,none⟩ :: l) n E (Sym w0 M I0 I m) Q:=
 Ops.valx (λv w'=>∃ b,v=.pointer (some ⟨b,0,none⟩)∧Sym w0 M I0 I (pto b (.cells #[z] T) :: m) w') rfl rfl
  (λa w D h=>⟨.pointer (some ⟨w.heap.size,0,none⟩),w.alloc (.cells #[z] T),by
   have J:z.cells = #[z]:=by cases z <;> first | rfl | cases W
   simp[execOp,Instr.box,D.eval U,newVar,newRow,J],_,rfl,h.alloc _⟩) K O
  (λv a w D ⟨b,V,h⟩=>by subst V; exact k b a w D h)
theorem Ops.fa {i:Nat} {f:Field} {b off o s:Nat} (D:P.underlying T=some (.struct fs)) (hi:fs[i]? = some f) (h:∀ w,(sizeOf f.type).run P w=.ok (s+1) w)
  (V:ev E x=some (.pointer (some ⟨b,off,none⟩))) (K:off+f.offset=o) {S:World->Prop} (O:Nat.blt d n.sz=true) (J:fresh E d=true) (k:Ops P ops l n ((d,.pointer (some ⟨b,o,none⟩)) :: E) S Q) :
  Ops P ops (⟨some d,.fieldAddr T x i,ty,pos,af,none⟩ :: l) n E S Q:=
 Ops.val rfl rfl (λa w U _=>by
  have e:(⟨b,off,none⟩:Addr).add f.offset=⟨b,o,none⟩:=by rw[<-K]; unfold Addr.add; split <;> simp_all
  simp[execOp,U.eval V,Instr.fieldAt,run_underlying D,hi,Instr.sureAddr,fieldPlace,h,e]) O J k
theorem Ops.load1 {b off:Nat} {cs:List Value} {v:Value} (K:∀ w,(isAgg T).run P w=.ok false w) (Z:ev E x=some (.pointer (some ⟨b,off,none⟩)))
  (W:Del m (pto b (.cells cs.toArray T' fz)) m') (J:cs[off]? = some v) (O:Nat.blt d n.sz=true) (U:fresh E d=true) (k:Ops P ops l n ((d,v) :: E) (Sym w0 M I0 I m) Q) :
  Ops P ops (⟨some d,.load T x,ty,pos,af,none⟩ :: l) n E (Sym w0 M I0 I m) Q:=
 Ops.val rfl rfl (λa w V D=>by have h:=(D.del W).pto;simp[execOp,V.eval Z,PO (P:=P) K ((LU h).trans (by simpa using J))]) O U k
theorem Ops.loadA {b off s:Nat} {cs vs:List Value} (O:∀ w,(isAgg T).run P w=.ok true w) (K:∀ w,(sizeOf T).run P w=.ok s w) (hx:ev E x=some (.pointer (some ⟨b,off,none⟩)))
  (hA:Del m (pto b (.cells cs.toArray T' fz)) m') (D:Cut cs off vs) (hl:vs.length=s) (Z:Nat.blt d n.sz=true) (U:fresh E d=true) (k:Ops P ops l n ((d,.agg vs.toArray) :: E) (Sym w0 M I0 I m) Q) :
  Ops P ops (⟨some d,.load T x,ty,pos,af,none⟩ :: l) n E (Sym w0 M I0 I m) Q:=
 Ops.val rfl rfl (λa w W J=>by have h:=(J.del hA).pto;simp[execOp,W.eval hx,JY (P:=P) O K hl (λj v V=>(LU h).trans (by simpa using D.get j v V))]) Z U k
theorem Ops.loadW {b s:Nat} {cs:List Value} (K:∀ w,(isAgg T).run P w=.ok true w) (J:∀ w,(sizeOf T).run P w=.ok s w) (hx:ev E x=some (.pointer (some ⟨b,0,none⟩)))
  (hA:Del m (pto b (.cells cs.toArray T' fz)) m') (Z:cs.length=s) (W:Nat.blt d n.sz=true) (O:fresh E d=true) (k:Ops P ops l n ((d,.agg cs.toArray) :: E) (Sym w0 M I0 I m) Q) :
  Ops P ops (⟨some d,.load T x,ty,pos,af,none⟩ :: l) n E (Sym w0 M I0 I m) Q:=
 Ops.val rfl rfl (λa w V D=>by have h:=(D.del hA).pto;simp[execOp,V.eval hx,JY (P:=P) K J Z (λj v U=>(LU (off:=0+j) h).trans (by rw[Nat.zero_add]; simpa using U))]) W O k
theorem setRow_other {g i:Nat} {c:Array Value} (h:i≠g):(w.setRow g c).heap[i]? = w.heap[i]?:=by simp only[World.setRow,Array.getElem?_modify];rw[if_neg (by omega)]
theorem Sym.store {b off:Nat} {cs vs:List Value} (h:Sym w0 M I0 I (Fw.pto b (.cells cs.toArray T' (0,0)) :: m) w) (hp:PutC cs off vs cs') (U:N1 vs=true) :
  ∃ w',(storeCells ⟨b,off,none⟩ vs).run P w=.ok () w'∧Sym w0 M I0 I (Fw.pto b (.cells cs'.toArray T' (0,0)) :: m) w':=by
 obtain⟨J,O⟩:=hp.eq;have D:=h.pto;have K:=run_storeCells_at (P:=P) b off T' vs 0 cs.toArray w D (by simpa using O) (VI U);refine⟨_,K,h.upd rfl rfl rfl rfl (by simp[World.setRow]) (λk hk=>setRow_other hk) ?_⟩;rw[setRow_heap w b _ _ T' _ D];simp[J]
theorem Sym.reAt {A B:HA} (K:At m A m' B) (h:Sym w0 M I0 I m w) {w':World} (D:∀ r,Sym w0 M I0 I (A :: r) w->Sym w0 M I0 I (B :: r) w'):Sym w0 M I0 I m' w':=by obtain⟨r,O,J⟩:=K.del;exact(D r (h.del O)).undel J
theorem Ops.storeA {b off s:Nat} {cs vs:List Value} (O:∀ w,(sizeOf T).run P w=.ok s w) (W:ev E x=some (.pointer (some ⟨b,off,none⟩))) (Z:ev E y=some (.agg vs.toArray))
  (hA:At m (pto b (.cells cs.toArray T' (0,0))) m' (pto b (.cells cs'.toArray T' (0,0)))) (J:PutC cs off vs cs') (hl:vs.length=s) (h1:N1 vs=true)
  (k:Ops P ops l n E (Sym w0 M I0 I m') Q):Ops P ops (⟨none,.store T x y,ty,pos,af,none⟩ :: l) n E (Sym w0 M I0 I m) Q:=
 Ops.act rfl rfl (λa w D K=>by obtain⟨r,h2,U⟩:=hA.del;obtain⟨w',V,h⟩:=(K.del h2).store (P:=P) J h1;refine⟨w',?_,h.undel U⟩;simp[execOp,D.eval W,D.eval Z,Instr.storeAt,Instr.sureAddr,storeVar,O,Value.cells,hl,V]) k
theorem Ops.store1 {b off:Nat} {cs:List Value} {v:Value} (V:∀ w,(sizeOf T).run P w=.ok 1 w) (hx:ev E x=some (.pointer (some ⟨b,off,none⟩))) (hy:ev E y=some v)
  (hA:At m (pto b (.cells cs.toArray T' (0,0))) m' (pto b (.cells cs'.toArray T' (0,0)))) (U:PutC cs off [v] cs') (K:one v=true)
  (k:Ops P ops l n E (Sym w0 M I0 I m') Q):Ops P ops (⟨none,.store T x y,ty,pos,af,none⟩ :: l) n E (Sym w0 M I0 I m) Q:=
 Ops.act rfl rfl (λa w J O=>by
  obtain⟨r,h2,W⟩:=hA.del;obtain⟨w',Z,D⟩:=(O.del h2).store (P:=P) U (by simp[N1,K]);refine⟨w',?_,D.undel W⟩;have h:v.cells = #[v]:=by cases v <;> first | rfl | cases K
  simp[execOp,J.eval hx,J.eval hy,Instr.storeAt,Instr.sureAddr,storeVar,V,h,Z]) k
def ImC (I:IH) (b off:Nat) (cs:List Value):Prop:=∃ c t fz,I b=some (.cells c t fz)∧∀ j v,cs[j]? = some v->c[off+j]? = some v
theorem ImC.mono {I J:IH} {b off:Nat} {cs:List Value} (h:ImC I b off cs) (D:I.le J):ImC J b off cs:=by obtain⟨c,t,fz,K,O⟩:=h;exact⟨c,t,fz,D _ _ K,O⟩
theorem ImC.cell {b off j:Nat} {cs:List Value} {v:Value} (h:ImC I b off cs) (D:Sym w0 M I0 I m w) (J:cs[j]? = some v):w.cell? ⟨b,off+j,none⟩=some v:=by obtain⟨c,t,fz,K,O⟩:=h;rw[LU (D.imm _ _ K)];exact O j v J
theorem Ops.ld1 {b off o j:Nat} {cs:List Value} {v:Value} (J:∀ w,(isAgg T).run P w=.ok false w) (K:ImC I b off cs) (Z:ev E x=some (.pointer (some ⟨b,o,none⟩))) (U:o=off+j) (D:cs[j]? = some v)
  (V:Nat.blt d n.sz=true) (O:fresh E d=true) (k:Ops P ops l n ((d,v) :: E) (Sym w0 M I0 I m) Q) :
  Ops P ops (⟨some d,.load T x,ty,pos,af,none⟩ :: l) n E (Sym w0 M I0 I m) Q:=
 Ops.val rfl rfl (λa w W h=>by subst U;simp[execOp,W.eval Z,PO (P:=P) J (K.cell h D)]) V O k
theorem Ops.ldW {b off s:Nat} {cs:List Value} (J:∀ w,(isAgg T).run P w=.ok true w) (D:∀ w,(sizeOf T).run P w=.ok s w) (K:ImC I b off cs) (Z:ev E x=some (.pointer (some ⟨b,off,none⟩)))
  (W:cs.length=s) (U:Nat.blt d n.sz=true) (O:fresh E d=true) (k:Ops P ops l n ((d,.agg cs.toArray) :: E) (Sym w0 M I0 I m) Q) :
  Ops P ops (⟨some d,.load T x,ty,pos,af,none⟩ :: l) n E (Sym w0 M I0 I m) Q:=
 Ops.val rfl rfl (λa w V h=>by simp[execOp,V.eval Z,JY (P:=P) J D W (λi v hi=>K.cell h hi)]) U O k
theorem Ops.field1 {i:Nat} {f:Field} {cs:List Value} {v:Value} {S:World->Prop} (D:P.underlying T=some (.struct fs)) (hi:fs[i]? = some f) (U:∀ w,(isAgg f.type).run P w=.ok false w)
  (V:ev E x=some (.agg cs.toArray)) (h:cs[f.offset]? = some v) (J:Nat.blt d n.sz=true) (K:fresh E d=true) (k:Ops P ops l n ((d,v) :: E) S Q) :
  Ops P ops (⟨some d,.field T x i,ty,pos,af,none⟩ :: l) n E S Q:=
 Ops.val rfl rfl (λa w O _=>by simp[execOp,O.eval V,Instr.field,run_underlying D,hi,asAgg,part,U,h]) J K k
def cellsOf:Value->List Value
 | .agg cs=>cs.toList
 | v=>[v]
theorem S6 (v:Value):v.cells=(cellsOf v).toArray:=by cases v <;> simp[Value.cells,cellsOf]
inductive iZ (fs:Array Field) (E:CZ):List Value→List (Nat×Operand)→List Value→Prop
 | n {z:List Value}:iZ fs E z [] z
 | c {z z' cs vs:List Value} {i:Nat} {x:Operand} {r:List (Nat×Operand)} {f:Field} {v:Value} (hi:fs[i]? = some f) (hx:ev E x=some v) (hv:cellsOf v=vs) (hp:PutC z f.offset vs z') (k:iZ fs E z' r cs) :
  iZ fs E z ((i,x) :: r) cs
theorem eW:∀ (vs:List Value) (off j:Nat) (z:Array Value),off+j+vs.length<=z.size ->
  ((vs.zipIdx j).foldl (λcs (p:Value×Nat)=>cs.setIfInBounds (off+p.2) p.1) z)=(z.toList.take (off+j)++vs++z.toList.drop (off+j+vs.length)).toArray
 | [],off,j,z,_=>by simp
 | v :: vs,off,j,z,h=>by simp only[List.length_cons] at h;rw[List.zipIdx_cons,List.foldl_cons,eW vs off (j+1) _ (by simp; omega)];congr 1;have e:=list_seg_step z.toList (off+j) v vs (by simp; omega);simpa[Array.toList_setIfInBounds,Nat.add_assoc] using e
theorem AjG {places:Array (Nat×Nat)} (U:∀ (i:Nat) (f:Field),fs[i]? = some f->∃ s,places[i]? = some (f.offset,s)) {ev':Operand->Value} :
  ∀ {z:List Value} {r:List (Nat×Operand)} {cs:List Value},iZ fs E z r cs->(∀ x v,ev E x=some v->ev' x=v) ->
   (∀ (i:Nat) (x:Operand) (f:Field) (s:Nat),(i,x)∈r->fs[i]? = some f->places[i]? = some (f.offset,s)->(cellsOf (ev' x)).length=s) ->
   Instr.fill (places[·]?) z.toArray (r.map λp=>(p.1,ev' p.2))=some cs.toArray:=by
 intro z r cs h
 induction h with
 | n=>intros; rfl
 | @c z z' cs vs i x r f v hi Z W hp k ih=>
  intro O V;obtain⟨s,J⟩:=U i f hi;have D:=V i x f s (by simp) hi J;rw[O x v Z,W] at D;obtain⟨K,hle⟩:=hp.eq;have e1:(ev' x).cells=vs.toArray:=by rw[O x v Z,S6,W]
  simp only[List.map_cons,Instr.fill,J,e1];rw[if_neg (by simp; omega)]
  have e2:vs.toArray.zipIdx.foldl (λcs (p:Value×Nat)=>cs.setIfInBounds (f.offset+p.2) p.1) z.toArray=z'.toArray:=by rw[<-Array.foldl_toList,Array.toList_zipIdx];rw[eW vs f.offset 0 z.toArray (by simp; omega)];simp[K]
  rw[e2];exact ih O (λi x f s hm=>V i x f s (List.mem_cons_of_mem _ hm))
def uD (P:Program) (E:CZ) (fs:Array Field):List (Nat×Operand)->Prop
 | []=>True
 | p :: r=>(∃ f v,fs[p.1]? = some f∧ev E p.2=some v∧P.cellsOf f.type=(cellsOf v).length)∧uD P E fs r
theorem Ab0 {fs:List Field}:∀ w,(∀ f∈fs,(P.info? f.type).isSome=true) ->
  (fs.mapM λf=>(do pure (f.offset,<-sizeOf f.type):Sem (Nat×Nat))).run P w=.ok (fs.map λf=>(f.offset,P.cellsOf f.type)) w:=by
 induction fs with
 | nil=>intro w _; rfl
 | cons f fs J=>
  intro w h
  have K:(sizeOf f.type).run P w=.ok (P.cellsOf f.type) w:=by obtain⟨i,hi⟩:=Option.isSome_iff_exists.1 (h f (by simp));simp[sizeOf,typeInfo,hi,Program.cellsOf]
  rw[List.mapM_cons];simp only[Sem.run_bind,K,Result.andThen_ok,Sem.run_pure,J w (λf D=>h f (by simp[D])),List.map_cons]
theorem xH (h:∀ f∈fs.toList,(P.info? f.type).isSome=true) (w:World) :
  (fs.mapM λf=>(do pure (f.offset,<-sizeOf f.type):Sem (Nat×Nat))).run P w=.ok (fs.toList.map λf=>(f.offset,P.cellsOf f.type)).toArray w:=by
 rw[Array.mapM_eq_mapM_toList];have:=Ab0 (P:=P) w h;simp only[Sem.run_map,this,Result.andThen_ok]
theorem Ops.build {S:World->Prop} {z:List Value} {h:List (Nat×Operand)} {cs:List Value} (hz:∀ w,(zeroValue T).run P w=.ok (.agg z.toArray) w) (O:P.underlying T=some (.struct fs))
  (U:(P.fieldsOf T).toList.all (λf=>(P.info? f.type).isSome)=true) (V:iZ fs E z h cs) (hS:uD P E fs h) (hb:Nat.blt d n.sz=true) (hf:fresh E d=true) (k:Ops P ops l n ((d,.agg cs.toArray) :: E) S Q) :
  Ops P ops (⟨some d,.build T h.toArray,ty,pos,af,none⟩ :: l) n E S Q:=
 Ops.val rfl rfl (λa w W _=>by
  have D:=AjG (places:=(fs.toList.map λf=>(f.offset,P.cellsOf f.type)).toArray) (E:=E) (ev':=a.eval) (λi f hi=>⟨P.cellsOf f.type,by
    have:fs.toList[i]? = some f:=by simpa using hi
    simp[this]⟩) V (λx v hx=>W.eval hx) (λi x f s J hi hp=>by
    have Z:P.cellsOf f.type=s:=by
     have:fs.toList[i]? = some f:=by simpa using hi
     simp[hi] at hp; exact hp
    rw[<-Z];clear V k
    induction h with
    | nil=>cases J
    | cons p r ih=>
     obtain⟨⟨f',v,h1,h2,h3⟩,h4⟩:=hS
     cases J with
     | head=>rw[W.eval h2]; rw[hi] at h1; cases h1; exact h3.symm
     | tail _ J=>exact ih h4 J)
  have K:∀ f∈fs.toList,(P.info? f.type).isSome=true:=by
   have e0:P.fieldsOf T=fs:=by simp[Program.fieldsOf,O]
   rw[e0] at U; exact List.all_eq_true.1 U
  simp only[execOp,Instr.build,Sem.run_bind,hz,Result.andThen_ok,run_underlying O,Value.cells,xH K];have e:(Array.map (λ(x:Nat×Operand)=>(x.1,a.eval x.2)) h.toArray).toList=h.map λp=>(p.1,a.eval p.2):=by simp
  rw[show(Array.map (λx=>match x with | (i,x)=>(i,a.eval x)) h.toArray).toList=h.map λp=>(p.1,a.eval p.2) from e,D];simp) hb hf k
end Go.Fw
