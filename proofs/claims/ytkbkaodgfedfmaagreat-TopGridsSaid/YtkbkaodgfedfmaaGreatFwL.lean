/- The engine. -/
import Derived.Test.YtkbkaodgfedfmaaGreatFwK
import Derived.Test.YtkbkaodgfedfmaaGreatFwO
namespace Go.Fw
open Go Go.RowKit
variable {w0 w:World} {M:Nat→Prop} {I0 I I1:IH} {m m':List HA}
variable {P:Program} {n:FrK} {E:CZ} {S:World→Prop} {Q:Exit→Act→World→Prop} {ops:Array Oper} {l:List Oper}
variable {d ty:Nat} {pos:String} {af:Array Edge} {T e:TypeId} {x y:Operand}
variable {α:Type} {El:EP α} {xs ys:List α} {a:Option Addr} {cap:Nat}
/-! ### Places -/
variable {Q':Exit→Act→World→Prop} {E1:CZ} {σ:Type} {T':TypeId} {m1:List HA} {fs:Array Field} {fn:Func} {tb:List (Nat×List Nat)} {id:Nat} {fz:Nat×Nat} {parts:List (Nat×Operand)}
section
variable {A B C1 C2 C3 C4 C5 C6 C7 C8 C9:HA} {q:List HA}
theorem Del.p1:Del (C1 :: A :: q) A (C1 :: q):=.s .z
theorem At.p1:At (C1 :: A :: q) A (C1 :: B :: q) B:=.s .z
theorem Del.p2:Del (C1 :: C2 :: A :: q) A (C1 :: C2 :: q):=.s (.s .z)
theorem At.p2:At (C1 :: C2 :: A :: q) A (C1 :: C2 :: B :: q) B:=.s (.s .z)
theorem Del.p3:Del (C1 :: C2 :: C3 :: A :: q) A (C1 :: C2 :: C3 :: q):=.s (.s (.s .z))
theorem At.p3:At (C1 :: C2 :: C3 :: A :: q) A (C1 :: C2 :: C3 :: B :: q) B:=.s (.s (.s .z))
theorem Del.p4:Del (C1 :: C2 :: C3 :: C4 :: A :: q) A (C1 :: C2 :: C3 :: C4 :: q):=.s (.s (.s (.s .z)))
theorem At.p4:At (C1 :: C2 :: C3 :: C4 :: A :: q) A (C1 :: C2 :: C3 :: C4 :: B :: q) B:=.s (.s (.s (.s .z)))
theorem Del.p5:Del (C1 :: C2 :: C3 :: C4 :: C5 :: A :: q) A (C1 :: C2 :: C3 :: C4 :: C5 :: q):=.s (.s (.s (.s (.s .z))))
theorem At.p5:At (C1 :: C2 :: C3 :: C4 :: C5 :: A :: q) A (C1 :: C2 :: C3 :: C4 :: C5 :: B :: q) B:=.s (.s (.s (.s (.s .z))))
theorem Del.p6:Del (C1 :: C2 :: C3 :: C4 :: C5 :: C6 :: A :: q) A (C1 :: C2 :: C3 :: C4 :: C5 :: C6 :: q):=.s (.s (.s (.s (.s (.s .z)))))
theorem At.p6:At (C1 :: C2 :: C3 :: C4 :: C5 :: C6 :: A :: q) A (C1 :: C2 :: C3 :: C4 :: C5 :: C6 :: B :: q) B:=.s (.s (.s (.s (.s (.s .z)))))
theorem Del.p7:Del (C1 :: C2 :: C3 :: C4 :: C5 :: C6 :: C7 :: A :: q) A (C1 :: C2 :: C3 :: C4 :: C5 :: C6 :: C7 :: q):=.s (.s (.s (.s (.s (.s (.s .z))))))
theorem At.p7:At (C1 :: C2 :: C3 :: C4 :: C5 :: C6 :: C7 :: A :: q) A (C1 :: C2 :: C3 :: C4 :: C5 :: C6 :: C7 :: B :: q) B:=.s (.s (.s (.s (.s (.s (.s .z))))))
theorem Del.p8:Del (C1 :: C2 :: C3 :: C4 :: C5 :: C6 :: C7 :: C8 :: A :: q) A (C1 :: C2 :: C3 :: C4 :: C5 :: C6 :: C7 :: C8 :: q):=.s (.s (.s (.s (.s (.s (.s (.s .z)))))))
theorem At.p8:At (C1 :: C2 :: C3 :: C4 :: C5 :: C6 :: C7 :: C8 :: A :: q) A (C1 :: C2 :: C3 :: C4 :: C5 :: C6 :: C7 :: C8 :: B :: q) B:=.s (.s (.s (.s (.s (.s (.s (.s .z)))))))
theorem Del.p9:Del (C1 :: C2 :: C3 :: C4 :: C5 :: C6 :: C7 :: C8 :: C9 :: A :: q) A (C1 :: C2 :: C3 :: C4 :: C5 :: C6 :: C7 :: C8 :: C9 :: q):=.s (.s (.s (.s (.s (.s (.s (.s (.s .z))))))))
theorem At.p9:At (C1 :: C2 :: C3 :: C4 :: C5 :: C6 :: C7 :: C8 :: C9 :: A :: q) A (C1 :: C2 :: C3 :: C4 :: C5 :: C6 :: C7 :: C8 :: C9 :: B :: q) B:=.s (.s (.s (.s (.s (.s (.s (.s (.s .z))))))))
end
def rI:Nat->List HA->Option (HA×List HA)
 | _,[]=>none
 | 0,A :: q=>some (A,q)
 | k+1,C :: q=>match rI k q with
  | some (A,r)=>some (A,C :: r)
  | none=>none
theorem gY:∀ {k:Nat} {q r:List HA} {A:HA},rI k q=some (A,r)->Del q A r
 | _,[],_,_,h=>by cases ‹Nat› <;> cases h
 | 0,A :: q,_,_,h=>by cases h; exact .z
 | k+1,C :: q,r,A,h=>by
  simp only[rI] at h
  cases hd:rI k q with
  | none=>rw[hd] at h; cases h
  | some p=>obtain⟨B,s⟩:=p; rw[hd] at h; cases h; exact .s (gY hd)
theorem Del.o {q r:List HA} {A:HA} (k:Nat) (h:rI k q=some (A,r)):Del q A r:=gY h
def pkL:List Nat->List HA->Option (List HA)
 | [],_=>some []
 | k :: ks,q=>match rI k q with
  | some (A,r)=>match pkL ks r with
   | some s=>some (A :: s)
   | none=>none
  | none=>none
theorem Pick.o {q s:List HA} (K:List Nat) (h:pkL K q=some s):Pick q s:=by
 induction K generalizing q s with
 | nil=>cases h; exact .n
 | cons k K O=>
  simp only[pkL] at h
  cases hd:rI k q with
  | none=>rw[hd] at h; cases h
  | some p=>
   obtain⟨A,r⟩:=p; rw[hd] at h; simp only at h
   cases hp:pkL K r with
   | none=>rw[hp] at h; cases h
   | some t=>rw[hp] at h; cases h; exact .c (gY hd) (O hp)
def Ae0:List Nat->List HA->Option (List HA×List HA)
 | [],q=>some ([],q)
 | k :: ks,q=>match rI k q with
  | some (A,r)=>match Ae0 ks r with
   | some (s,t)=>some (A :: s,t)
   | none=>none
  | none=>none
theorem Outs.o {q s t:List HA} (K:List Nat) (h:Ae0 K q=some (s,t)):Outs q s t:=by
 induction K generalizing q s t with
 | nil=>cases h; exact .n
 | cons k K O=>
  simp only[Ae0] at h
  cases hd:rI k q with
  | none=>rw[hd] at h; cases h
  | some p=>
   obtain⟨A,r⟩:=p; rw[hd] at h; simp only at h
   cases hp:Ae0 K r with
   | none=>rw[hp] at h; cases h
   | some u=>obtain⟨u1,u2⟩:=u; rw[hp] at h; cases h; exact .c (gY hd) (O hp)
def AiS:Nat->List HA->Option (List HA)
 | 0,q=>some q
 | k+1,A :: q=>match AiS k q with
  | some r=>some (A :: r)
  | none=>none
 | _+1,[]=>none
theorem Ae1:∀ {k:Nat} {q r:List HA},AiS k q=some r->q=r
 | 0,_,_,h=>by cases h; rfl
 | k+1,A :: q,r,h=>by
  simp only[AiS] at h
  cases hp:AiS k q with
  | none=>rw[hp] at h; cases h
  | some s=>rw[hp] at h; cases h; rw[Ae1 hp]
 | _+1,[],_,h=>by cases h
theorem Ops.rx (k:Nat) (h:AiS k m=some m') (g:Ops P ops l n E (Sym w0 M I0 I m') Q):Ops P ops l n E (Sym w0 M I0 I m) Q:=Ae1 h▸g
def Ac5:Nat->List HA->Option (List HA)
 | 0,[]=>some []
 | 0,_ :: _=>none
 | k+1,A :: q=>match Ac5 k q with
  | some r=>some (A :: r)
  | none=>none
 | _+1,[]=>none
theorem mX:∀ {k:Nat} {q r:List HA},Ac5 k q=some r->q=r
 | 0,[],_,h=>by cases h; rfl
 | 0,_ :: _,_,h=>by cases h
 | k+1,A :: q,r,h=>by
  simp only[Ac5] at h
  cases hp:Ac5 k q with
  | none=>rw[hp] at h; cases h
  | some s=>rw[hp] at h; cases h; rw[mX hp]
 | _+1,[],_,h=>by cases h
theorem Ops.rn (k:Nat) (h:Ac5 k m=some m') (g:Ops P ops l n E (Sym w0 M I0 I m') Q):Ops P ops l n E (Sym w0 M I0 I m) Q:=mX h▸g
theorem Cod.rn {c:Code} (k:Nat) (h:Ac5 k m=some m') (g:Cod P c n E (Sym w0 M I0 I m') Q):Cod P c n E (Sym w0 M I0 I m) Q:=mX h▸g
theorem Nrm.rn (k:Nat) (h:Ac5 k m=some m') (g:Nrm n E (Sym w0 M I0 I m') Q):Nrm n E (Sym w0 M I0 I m) Q:=mX h▸g
def wE:List Value->Nat->Nat->Option (List Value)
 | _,0,0=>some []
 | c :: cs,0,j+1=>match wE cs 0 j with
  | some vs=>some (c :: vs)
  | none=>none
 | _ :: cs,k+1,j=>wE cs k j
 | [],_,_=>none
theorem Cut.o:∀ {cs vs:List Value} {k:Nat} (j:Nat),wE cs k j=some vs->Cut cs k vs
 | cs,vs,0,0,h=>by cases cs <;> (simp only[wE] at h; cases h; exact .nil)
 | c :: cs,vs,0,j+1,h=>by
  simp only[wE] at h
  cases hp:wE cs 0 j with
  | none=>rw[hp] at h; cases h
  | some us=>rw[hp] at h; cases h; exact .t (Cut.o j hp)
 | c :: cs,vs,k+1,j,h=>by
  simp only[wE] at h;exact .s (Cut.o j h)
 | [],_,0,_+1,h=>by simp[wE] at h
 | [],_,_+1,_,h=>by simp[wE] at h
def gZ:List Value->Nat->List Value->Option (List Value)
 | cs,0,[]=>some cs
 | _ :: cs,0,v :: vs=>match gZ cs 0 vs with
  | some r=>some (v :: r)
  | none=>none
 | c :: cs,k+1,vs=>match gZ cs k vs with
  | some r=>some (c :: r)
  | none=>none
 | [],_,_=>none
theorem PutC.o:∀ {cs vs K:List Value} {k:Nat},gZ cs k vs=some K->PutC cs k vs K
 | cs,[],K,0,h=>by cases cs <;> (simp only[gZ] at h; cases h; exact .nil)
 | c :: cs,v :: vs,K,0,h=>by
  simp only[gZ] at h
  cases hp:gZ cs 0 vs with
  | none=>rw[hp] at h; cases h
  | some us=>rw[hp] at h; cases h; exact .t (PutC.o hp)
 | c :: cs,vs,K,k+1,h=>by
  simp only[gZ] at h
  cases hp:gZ cs k vs with
  | none=>rw[hp] at h; cases h
  | some us=>rw[hp] at h; cases h; exact .s (PutC.o hp)
 | [],_ :: _,_,0,h=>by simp[gZ] at h
 | [],_,_,_+1,h=>by simp[gZ] at h
def reE:CZ->CZ->Option CZ
 | [],_=>some []
 | p :: A,E=>match look E p.1 with
  | some v=>match reE A E with
   | some B=>some ((p.1,v) :: B)
   | none=>none
  | none=>none
theorem Ae2:∀ {A E:CZ},reE A E=some A->Sub A E
 | [],_,_=>trivial
 | p :: A,E,h=>by
  simp only[reE] at h
  cases hl:look E p.1 with
  | none=>rw[hl] at h; cases h
  | some v=>
   rw[hl] at h; simp only at h
   cases hr:reE A E with
   | none=>rw[hr] at h; cases h
   | some B=>
    rw[hr] at h;simp only[Option.some.injEq,List.cons.injEq] at h;obtain⟨K,rfl⟩:=h;exact⟨by rw[hl,<-K],Ae2 hr⟩
theorem Ok.re {E':CZ} {a:Act} (K:Ok n E a) (h:reE E' E=some E'):Ok n E' a:=K.sub (Ae2 h)
def Jn (w0:World) (M:Nat->Prop) (I0 I1:IH) (n:FrK) (E:CZ) (q:List HA):Act->World->Prop:=λc w=>∃ I,IH.le I1 I∧Ok n E c∧Sym w0 M I0 I q w
def Jx (w0:World) (M:Nat->Prop) (I0 I1:IH) (n:FrK) (F:IH->Prop) (E:CZ) (q:List HA):Act->World->Prop:=λc w=>∃ I,IH.le I1 I∧F I∧Ok n E c∧Sym w0 M I0 I q w
theorem Cod.jn {c:Code} {K:(σ->Prop)->Prop} {k:σ->Prop} (V:DB K k) (U ps:List Nat) (h:(AgM U E [],pkL ps m)=(some E1,some m1))
 (O:(CZ->List HA->Act->World->Prop)->CZ->List HA->σ->Act->World->Prop) (W:∀ k,K k->Cod P c n E (Sym w0 M I0 I m) (Exit.then (λa w=>∃ s,k s∧O (Jn w0 M I0 I n) E1 m1 s a w) Q))
 (Z:∀ s,k s->∀ a w,O (Jn w0 M I0 I n) E1 m1 s a w->Q .normal a w):Cod P c n E (Sym w0 M I0 I m) Q:=Cod.joinQ V _ W Z
theorem Cod.jx {c:Code} {K:(σ->Prop)->Prop} {k:σ->Prop} (V:DB K k) (U ps:List Nat) (h:(AgM U E [],pkL ps m)=(some E1,some m1))
 (O:(FrK->(IH->Prop)->CZ->List HA->Act->World->Prop)->CZ->List HA->σ->Act->World->Prop) (W:∀ k,K k->Cod P c n E (Sym w0 M I0 I m) (Exit.then (λa w=>∃ s,k s∧O (Jx w0 M I0 I) E1 m1 s a w) Q))
 (Z:∀ s,k s->∀ a w,O (Jx w0 M I0 I) E1 m1 s a w->Q .normal a w):Cod P c n E (Sym w0 M I0 I m) Q:=Cod.joinQ V _ W Z
theorem Cod.lp {c:Code} {K:σ->(σ->Prop)->Prop} {s0:σ} (Z:AW K s0) (W ps:List Nat) (h:(AgM W E [],pkL ps m)=(some E1,some m1))
 (O:(CZ->List HA->Act->World->Prop)->CZ->List HA->σ->Act->World->Prop) (h0:∀ a w,Ok n E a->Sym w0 M I0 I m w->O (Jn w0 M I0 I n) E1 m1 s0 a w)
 (V:∀ s (next:σ->Prop),K s next->∀ a w,O (Jn w0 M I0 I n) E1 m1 s a w->c.wpIn (UT n) 0 P (Exit.then (λa' w'=>∃ U,next U∧O (Jn w0 M I0 I n) E1 m1 U a' w') Q) a w):Cod P (.loop c) n E (Sym w0 M I0 I m) Q:=Cod.loop Z _ h0 V
theorem Cod.lx {c:Code} {K:σ->(σ->Prop)->Prop} {s0:σ} (Z:AW K s0) (W ps:List Nat) (h:(AgM W E [],pkL ps m)=(some E1,some m1))
 (O:(FrK->(IH->Prop)->CZ->List HA->Act->World->Prop)->CZ->List HA->σ->Act->World->Prop) (h0:∀ a w,Ok n E a->Sym w0 M I0 I m w->O (Jx w0 M I0 I) E1 m1 s0 a w)
 (V:∀ s (next:σ->Prop),K s next->∀ a w,O (Jx w0 M I0 I) E1 m1 s a w->c.wpIn (UT n) 0 P (Exit.then (λa' w'=>∃ U,next U∧O (Jx w0 M I0 I) E1 m1 U a' w') Q) a w):Cod P (.loop c) n E (Sym w0 M I0 I m) Q:=Cod.loop Z _ h0 V
theorem ji {U:Act->World->Prop} {E':CZ} {q:List HA} (K:I1.le I) (O:List Nat) (h:(U,reE E' E,pkL O m)=(Jn w0 M I0 I1 n E' q,some E',some q)):∀ a w,Ok n E a->Sym w0 M I0 I m w->U a w:=λa w W V=>by injection h with h1 h2; injection h2 with h2 h3;rw[h1]; exact⟨I,K,W.re h2,V.pick (.o O h3)⟩
theorem je {k:σ->Prop} {U:σ->Act->World->Prop} {E':CZ} {q:List HA} (s:σ) (hk:k s) (K:I1.le I) (O:List Nat) (h:(U s,reE E' E,pkL O m)=(Jn w0 M I0 I1 n E' q,some E',some q)):∀ a w,Ok n E a->Sym w0 M I0 I m w->∃ s,k s∧U s a w:=
 λa w W V=>⟨s,hk,ji K O h a w W V⟩
theorem jf {F:IH->Prop} {E':CZ} {q:List HA} {a:Act} {w:World} (K:I1.le I) (V:F I) (O:List Nat) (h:(reE E' E,pkL O m)=(some E',some q)) (W:Ok n E a) (U:Sym w0 M I0 I m w):Jx w0 M I0 I1 n F E' q a w:=by injection h with h2 h3;exact⟨I,K,V,W.re h2,U.pick (.o O h3)⟩
theorem jq {G:Act->World->Prop} {y:Code} {q:List HA} (W:G=λa w=>y.wpIn (UT n) 0 P Q' a w) (h:∀ K,I.le K->Cod P y n E (Sym w0 M I0 K q) Q'):∀ a w,Jn w0 M I0 I n E q a w->G a w:=λa w ⟨K,O,V,U⟩=>by rw[W]; exact h K O a w V U
class Up (A:Prop) (I J:IH) (B:outParam Prop):Prop where
 up:I.le J→A→B
instance {I J K:IH}:Up (IH.le K I) I J (IH.le K J):=⟨λh k=>k.trans h⟩
instance {α:Type} {El:EP α} {a:Option Addr} {cap:Nat} {xs:List α} {I J:IH}:Up (RepSl El I a cap xs) I J (RepSl El J a cap xs):=⟨λh k=>k.mono h⟩
instance {b off:Nat} {cs:List Value} {I J:IH}:Up (ImC I b off cs) I J (ImC J b off cs):=⟨λh k=>k.mono h⟩
instance {α:Type} {El:EP α} {K:List (fD El.sz)} {xs:List α} {I J:IH}:Up (RepR El I K xs) I J (RepR El J K xs):=⟨λh k=>k.mono h⟩
section
variable {J:IH} {A B C D F G A' B' C' D' F' G':Prop}
theorem IH.le.u1 (h:I.le J) (a:A) [Up A I J A']:A':=Up.up h a
theorem IH.le.u2 (h:I.le J) (a:A) (b:B) [Up A I J A'] [Up B I J B']:A'∧B':=⟨h.u1 a,h.u1 b⟩
theorem IH.le.u3 (h:I.le J) (a:A) (b:B) (c:C) [Up A I J A'] [Up B I J B'] [Up C I J C']:A'∧B'∧C':=⟨h.u1 a,h.u2 b c⟩
theorem IH.le.u4 (h:I.le J) (a:A) (b:B) (c:C) (d:D) [Up A I J A'] [Up B I J B'] [Up C I J C'] [Up D I J D']:A'∧B'∧C'∧D':=⟨h.u1 a,h.u3 b c d⟩
theorem IH.le.u5 (h:I.le J) (a:A) (b:B) (c:C) (d:D) (f:F) [Up A I J A'] [Up B I J B'] [Up C I J C'] [Up D I J D'] [Up F I J F']:A'∧B'∧C'∧D'∧F':=⟨h.u1 a,h.u4 b c d f⟩
theorem IH.le.u6 (h:I.le J) (a:A) (b:B) (c:C) (d:D) (f:F) (g:G) [Up A I J A'] [Up B I J B'] [Up C I J C'] [Up D I J D'] [Up F I J F'] [Up G I J G']:A'∧B'∧C'∧D'∧F'∧G':=⟨h.u1 a,h.u5 b c d f g⟩
end
theorem rf:IH.le I I:=.refl _
def rsl (k:Nat) (h:List Nat):CZ->Option (CZ×List Nat)
 | []=>some ([],[])
 | (q,x) :: E=>match rsl k h E with
  | some (F,ns)=>bif JZ h q then match x with
    | .slice a j c=>some ((q,.slice a k c) :: F,j :: ns)
    | _=>none
   else some ((q,x) :: F,ns)
  | none=>none
def cps (k:Nat):List Nat->List Nat
 | []=>[]
 | _ :: r=>k :: cps k r
theorem Ae3 {k:Nat}:∀ {K:List Nat} {j:Nat},j∈cps k K->j=k
 | _ :: _,_,h=>by
  simp only[cps,List.mem_cons] at h;rcases h with h | h
  . exact h
  . exact Ae3 h
theorem Ac6 {k:Nat} {K:List Nat} {a:Act}:∀ {E E':CZ} {O:List Nat},rsl k K E=some (E',O)->(∀ j∈O,j=k)->EnvOk E a->EnvOk E' a
 | [],_,_,h,_,_=>by cases h; trivial
 | (y,x) :: E,E',O,h,hn,he=>by
  simp only[rsl] at h
  cases hr:rsl k K E with
  | none=>rw[hr] at h; cases h
  | some q=>
   obtain⟨F,ms⟩:=q;rw[hr] at h; simp only at h
   cases hb:JZ K y with
   | false=>rw[hb] at h; cases h; exact⟨he.1,Ac6 hr hn he.2⟩
   | true=>
    rw[hb] at h; simp only[cond_true] at h;split at h
    . rename_i b u j c;cases h;have U:j=k:=hn j (by simp);exact⟨by rw[<-U]; exact he.1,Ac6 hr (λi hi=>hn i (by simp[hi])) he.2⟩
    . cases h
theorem Ops.rl {k:Nat} {E':CZ} (hA:Del m (OwnSl El T a cap xs) m') (O:List Nat) (h:rsl xs.length O E=some (E',cps k O)) (hk:xs.length=k) (g:Ops P ops l n E' (Sym w0 M I0 I m) Q):Ops P ops l n E (Sym w0 M I0 I m) Q:=
 λc w K U=>g c w ⟨K.size,K.defers,Ac6 h (λj V=>by rw[hk]; exact Ae3 V) K.env⟩ U
theorem Ops.no {z:Code} {E':CZ} (K:Nat) (h:(selN K E [],λa w=>Q .normal a w)=(some E',λa w=>z.wpIn (UT n) 0 P Q' a w)) (g:Cod P z n E' S Q'):Ops P ops [] n E S Q:=by injection h with h1 h2; exact .nilS K h1 h2 g
theorem Ops.nkT (W:AllOk P tb) {z:Code} {E' O:CZ} {K V:List Oper} (U:Nat) (j:Nat)
  (h:(selN U E [],(λa w=>Q .normal a w),nO tb K.toArray n j K E')=(some E',(λa w=>(Code.seq (.region id K.toArray false) z).wpIn (UT n) 0 P Q' a w),some (V,O)))
  (g:Ops P K.toArray V n O S (Exit.then (z.wpIn (UT n) 0 P Q') Q')):Ops P ops [] n E S Q:=by
 injection h with h1 h2; injection h2 with h2 h3; exact .nilS U h1 h2 (.sr (.ksT W j h3 g))
theorem Ops.ns {z:Code} {E':CZ} {K:List Oper} (O:Nat)
  (h:(selN O E [],(λa w=>Q .normal a w))=(some E',(λa w=>(Code.seq (.region id K.toArray false) z).wpIn (UT n) 0 P Q' a w)))
  (g:Ops P K.toArray K n E' S (Exit.then (z.wpIn (UT n) 0 P Q') Q')):Ops P ops [] n E S Q:=by
 injection h with h1 h2; exact .nilS O h1 h2 (.sr g)
theorem Cod.skT (O:AllOk P tb) {l K:List Oper} {z:Code} {E':CZ} (j:Nat) (h:nO tb l.toArray n j l E=some (K,E')) (g:Ops P l.toArray K n E' S (Exit.then (z.wpIn (UT n) 0 P Q) Q)):Cod P (.seq (.region id l.toArray false) z) n E S Q:=.sr (.ksT O j h g)
theorem Ops.knT (O:AllOk P tb) {z:Code} {E':CZ} (j:Nat) (K:Nat) (h:(nO tb ops n j l E,selN K E1 [],λa w=>Q .normal a w)=(some ([],E1),some E',λa w=>z.wpIn (UT n) 0 P Q' a w)) (g:Cod P z n E' S Q'):Ops P ops l n E S Q:=by injection h with h1 h2; injection h2 with h2 h3; exact .ksT O j h1 (.nilS K h2 h3 g)
theorem Cod.sn {z:Code} {E':CZ} (K:Nat) (h:(selN K E [],λa w=>Q .normal a w)=(some E',λa w=>z.wpIn (UT n) 0 P Q' a w)) (g:Cod P z n E' S Q'):Cod P .skip n E S Q:=by injection h with h1 h2; exact .skipS K h1 h2 g
theorem Cod.en {z:Code} {k:Nat} {E':CZ} (K:Nat) (h:(selN K E [],λa w=>Q (.exit k) a w)=(some E',λa w=>z.wpIn (UT n) 0 P Q' a w)) (g:Cod P z n E' S Q'):Cod P (.exit k) n E S Q:=by injection h with h1 h2; exact .exitS K h1 h2 g
theorem Ops.fo {i:Nat} {f:Field} {b off s:Nat} (O:P.underlying T=some (.struct fs)) (o:Nat) (h:(fs[i]?,ev E x,off+f.offset,Nat.blt d n.sz,fresh E d)=(some f,some (.pointer (some ⟨b,off,none⟩)),o,true,true))
  (K:∀ w,(sizeOf f.type).run P w=.ok (s+1) w) (k:Ops P ops l n ((d,.pointer (some ⟨b,o,none⟩)) :: E) S Q):Ops P ops (⟨some d,.fieldAddr T x i,ty,pos,af,none⟩ :: l) n E S Q:=by
 injection h with h1 h; injection h with h2 h; injection h with h3 h; injection h with h4 h5; exact .fa O h1 K h2 h3 h4 h5 k
theorem Ops.lo {b off:Nat} {cs:List Value} {v:Value} (K:∀ w,(isAgg T).run P w=.ok false w) (O:Del m (pto b (.cells cs.toArray T' fz)) m')
  (h:(ev E x,cs[off]?,Nat.blt d n.sz,fresh E d)=(some (.pointer (some ⟨b,off,none⟩)),some v,true,true)) (k:Ops P ops l n ((d,v) :: E) (Sym w0 M I0 I m) Q):Ops P ops (⟨some d,.load T x,ty,pos,af,none⟩ :: l) n E (Sym w0 M I0 I m) Q:=by
 injection h with h1 h; injection h with h2 h; injection h with h3 h4; exact .load1 K h1 O h2 h3 h4 k
theorem Ops.lw {b s:Nat} {cs:List Value} (O:∀ w,(isAgg T).run P w=.ok true w) (K:∀ w,(sizeOf T).run P w=.ok s w) (U:Del m (pto b (.cells cs.toArray T' fz)) m')
  (h:(ev E x,cs.length,Nat.blt d n.sz,fresh E d)=(some (.pointer (some ⟨b,0,none⟩)),s,true,true)) (k:Ops P ops l n ((d,.agg cs.toArray) :: E) (Sym w0 M I0 I m) Q):Ops P ops (⟨some d,.load T x,ty,pos,af,none⟩ :: l) n E (Sym w0 M I0 I m) Q:=by
 injection h with h1 h; injection h with h2 h; injection h with h3 h4; exact .loadW O K h1 U h2 h3 h4 k
theorem Ops.sa {b off s:Nat} {cs vs K:List Value} (O:∀ w,(sizeOf T).run P w=.ok s w) (U:At m (pto b (.cells cs.toArray T' (0,0))) m' (pto b (.cells K.toArray T' (0,0))))
  (h:(ev E x,ev E y,gZ cs off vs,vs.length,N1 vs)=(some (.pointer (some ⟨b,off,none⟩)),some (.agg vs.toArray),some K,s,true)) (k:Ops P ops l n E (Sym w0 M I0 I m') Q):Ops P ops (⟨none,.store T x y,ty,pos,af,none⟩ :: l) n E (Sym w0 M I0 I m) Q:=by
 injection h with h1 h; injection h with h2 h; injection h with h3 h; injection h with h4 h5; exact .storeA O h1 h2 U (.o h3) h4 h5 k
theorem Ops.s1 {b off:Nat} {cs K:List Value} {v:Value} (O:∀ w,(sizeOf T).run P w=.ok 1 w) (U:At m (pto b (.cells cs.toArray T' (0,0))) m' (pto b (.cells K.toArray T' (0,0))))
  (h:(ev E x,ev E y,gZ cs off [v],one v)=(some (.pointer (some ⟨b,off,none⟩)),some v,some K,true)) (k:Ops P ops l n E (Sym w0 M I0 I m') Q):Ops P ops (⟨none,.store T x y,ty,pos,af,none⟩ :: l) n E (Sym w0 M I0 I m) Q:=by
 injection h with h1 h; injection h with h2 h; injection h with h3 h4; exact .store1 O h1 h2 U (.o h3) h4 k
theorem Ops.yes {K:Option Nat} {O:Op} {j s:Nat} {b c:Bool} (h:(kU ops j,look E s,c)=(some s,some (.bool c),b)) (k:Ops P ops (⟨K,O,ty,pos,af,none⟩ :: l) n E S Q):Ops P ops (⟨K,O,ty,pos,af,some (j,b)⟩ :: l) n E S Q:=by injection h with h1 h; injection h with h2 h3; exact .gyes h1 h2 h3 k
theorem DrawD.h {cs:List (Option Nat)} {dn:HC} {X pend:List Nat} {as:List AS} {L:Sh} {c:Nat} {o:Oper} {v:Value} (h:(ops[c]?,o.dst,fresh E d)=(some o,some d,true)) (g:∀ {K},Ops P ops [o] n (IA dn (EC o) E) (Sym w0 M I0 I (L K)) (Fin n (Sym w0 M I0 I (L K)) d v))
  (k:DrawD P ops n Q w0 M I0 E cs ((c,d,v) :: dn) (c :: X) (c :: pend) as I L):DrawD P ops n Q w0 M I0 E (some c :: cs) dn X pend as I L:=by
 injection h with h1 h; injection h with h2 h3; exact .g h1 h2 h3 (λ_=>g) k
theorem RepSl.ix {enc:α->List Value} {s:Nat} {O:∀ x,(enc x).length=s∧N1 (enc x)=true} {a:Option Addr} {cap:Nat} {xs:List α} {i:Int} {k:α->Prop} (h:RepSl (KK s enc O) I a cap xs) (Z:AZ xs i k) :
  ∃ (_:0<=i) (x:α) (_:xs[i.toNat]? = some x) (b off:Nat),a=some ⟨b,off,none⟩∧ImC I b (off+i.toNat*s) (enc x)∧k x:=by
 obtain⟨W,x,K,hk⟩:=Z;obtain⟨b,off,cs,V,h2,U⟩:=h.2 _ _ K;cases U;exact⟨W,x,K,b,off,V,h2,hk⟩
theorem Ops.ixb {S:World->Prop} {k s off b:Nat} {q:IntKind} {i:Int} {v:α} (U:P.underlying T=some (.slice e)) (O:∀ w,(sizeOf e).run P w=.ok s w) (V:a=some ⟨b,off,none⟩) (K:0<=i) (W:xs[i.toNat]? = some v)
  (h:(ev E x,ev E y,xs.length,Nat.blt d n.sz,fresh E d)=(some (.slice a k cap),some (.int q i),k,true,true)) (g:Ops P ops l n ((d,.pointer (some ⟨b,off+i.toNat*s,none⟩)) :: E) S Q):Ops P ops (⟨some d,.indexAddr T x y,ty,pos,af,none⟩ :: l) n E S Q:=by
 injection h with h1 h; injection h with h2 h; injection h with h3 h; injection h with h4 h5; subst h3; exact .ixa U O h1 V h2 K (CC W K) h4 h5 g
theorem Ops.ldb {b off o:Nat} {cs:List Value} {v:Value} (j:Nat) (K:∀ w,(isAgg T).run P w=.ok false w) (O:ImC I b off cs) (h:(ev E x,off+j,cs[j]?,Nat.blt d n.sz,fresh E d)=(some (.pointer (some ⟨b,o,none⟩)),o,some v,true,true))
  (k:Ops P ops l n ((d,v) :: E) (Sym w0 M I0 I m) Q):Ops P ops (⟨some d,.load T x,ty,pos,af,none⟩ :: l) n E (Sym w0 M I0 I m) Q:=by
 injection h with h1 h; injection h with h2 h; injection h with h3 h; injection h with h4 h5; exact .ld1 K O h1 h2.symm h3 h4 h5 k
def rpl (h:List Nat) (v:Value):CZ->Option (CZ×List Value)
 | []=>some ([],[])
 | (k,x) :: E=>match rpl h v E with
  | some (F,ns)=>bif JZ h k then some ((k,v) :: F,x :: ns) else some ((k,x) :: F,ns)
  | none=>none
def rep (v:Value):List Nat->List Value
 | []=>[]
 | _ :: r=>v :: rep v r
theorem wF {v x:Value}:∀ {K:List Nat},x∈rep v K->x=v
 | _ :: _,h=>by
  simp only[rep,List.mem_cons] at h;rcases h with h | h
  . exact h
  . exact wF h
theorem wG {K:List Nat} {v:Value} {a:Act}:∀ {E E':CZ} {O:List Value},rpl K v E=some (E',O)->(∀ x∈O,x=v)->EnvOk E a->EnvOk E' a
 | [],_,_,h,_,_=>by cases h; trivial
 | (k,x) :: E,E',O,h,hn,he=>by
  simp only[rpl] at h
  cases hr:rpl K v E with
  | none=>rw[hr] at h; cases h
  | some q=>
   obtain⟨F,ms⟩:=q;rw[hr] at h; simp only at h
   cases hb:JZ K k with
   | false=>rw[hb] at h; cases h; exact⟨he.1,wG hr hn he.2⟩
   | true=>
    rw[hb] at h; cases h;exact⟨by rw[<-hn x (by simp)]; exact he.1,wG hr (λi hi=>hn i (by simp[hi])) he.2⟩
theorem Ops.spl {t:Bool} {A B:Prop} {W:CZ} (Z:A8 t A B) (O:List Nat) (h:(rpl O (.bool true) E,rpl O (.bool false) E)=(some (E1,rep (.bool t) O),some (W,rep (.bool t) O)))
  (h1:t=true->A->Ops P ops l n E1 S Q) (h0:t=false->B->Ops P ops l n W S Q):Ops P ops l n E S Q:=by
 injection h with g1 g0
 cases t with
 | true=>exact λc w K U=>h1 rfl (Z.1 rfl) c w ⟨K.size,K.defers,wG g1 (λ_ V=>wF V) K.env⟩ U
 | false=>exact λc w K U=>h0 rfl (Z.2 rfl) c w ⟨K.size,K.defers,wG g0 (λ_ V=>wF V) K.env⟩ U
def AkM (fs:Array Field) (E:CZ):List Value->List (Nat×Operand)->Option (List Value)
 | z,[]=>some z
 | z,p :: r=>match fs[p.1]? with
  | some f=>match ev E p.2 with
   | some v=>match gZ z f.offset (cellsOf v) with
    | some z'=>AkM fs E z' r
    | none=>none
   | none=>none
  | none=>none
theorem Ae4 :∀ {r:List (Nat×Operand)} {z cs:List Value},AkM fs E z r=some cs->iZ fs E z r cs
 | [],_,_,h=>by cases h; exact .n
 | p :: r,z,cs,h=>by
  simp only[AkM] at h;split at h
  . rename_i f K;split at h
    . rename_i v O;split at h
      . rename_i z' U; exact .c K O rfl (.o U) (Ae4 h)
      . cases h
    . cases h
  . cases h
def szA (P:Program) (fs:Array Field):List (Nat×Operand)->Option (List Nat)
 | []=>some []
 | p :: r=>match fs[p.1]? with
  | some f=>match szA P fs r with
   | some q=>some (P.cellsOf f.type :: q)
   | none=>none
  | none=>none
def szB (E:CZ):List (Nat×Operand)->Option (List Nat)
 | []=>some []
 | p :: r=>match ev E p.2 with
  | some v=>match szB E r with
   | some q=>some ((cellsOf v).length :: q)
   | none=>none
  | none=>none
theorem AlC :∀ {r:List (Nat×Operand)} {q:List Nat},szA P fs r=some q->szB E r=some q->uD P E fs r
 | [],_,_,_=>trivial
 | p :: r,q,h,h'=>by
  simp only[szA] at h;simp only[szB] at h';split at h
  . rename_i f K;split at h
    . rename_i q1 V;split at h'
      . rename_i v O;split at h'
        . rename_i q2 U;cases h;injection h' with h';injection h' with h3 h4;subst h4;exact⟨⟨f,v,K,O,h3.symm⟩,AlC V U⟩
        . cases h'
      . cases h'
    . cases h
  . cases h
theorem Ops.bd {z:List Value} {cs:List Value} {q:List Nat} (U:∀ w,(zeroValue T).run P w=.ok (.agg z.toArray) w) (K:P.underlying T=some (.struct fs)) (O:(P.fieldsOf T).toList.all (λf=>(P.info? f.type).isSome)=true)
  (h:(AkM fs E z parts,szA P fs parts,szB E parts,Nat.blt d n.sz,fresh E d)=(some cs,some q,some q,true,true)) (k:Ops P ops l n ((d,.agg cs.toArray) :: E) S Q):Ops P ops (⟨some d,.build T parts.toArray,ty,pos,af,none⟩ :: l) n E S Q:=by
 injection h with h1 h; injection h with h2 h; injection h with h3 h; injection h with h4 h5; exact .build U K O (Ae4 h1) (AlC h2 h3) h4 h5 k
def AkN (E:CZ) (s:Nat):List Value->List (Nat×Operand)->Option (List Value)
 | z,[]=>some z
 | z,p :: r=>match ev E p.2 with
  | some v=>bif Nat.beq (cellsOf v).length s then match gZ z (p.1*s) (cellsOf v) with
    | some z'=>AkN E s z' r
    | none=>none
   else none
  | none=>none
theorem Ae5 {s:Nat}:∀ {r:List (Nat×Operand)} {z cs:List Value},AkN E s z r=some cs->jD E s z r cs
 | [],_,_,h=>by cases h; exact .n
 | p :: r,z,cs,h=>by
  simp only[AkN] at h;split at h
  . rename_i v K
    cases hb:Nat.beq (cellsOf v).length s with
    | false=>rw[hb] at h; cases h
    | true=>
     rw[hb] at h; simp only[cond_true] at h;split at h
     . rename_i z' O; exact .c K rfl (Nat.eq_of_beq_eq_true hb) (.o O) (Ae5 h)
     . cases h
  . cases h
theorem Ops.ba {K s:Nat} {z:List Value} {cs:List Value} (V:∀ w,(zeroValue T).run P w=.ok (.agg z.toArray) w) (U:P.underlying T=some (.array K e)) (O:∀ w,(sizeOf e).run P w=.ok s w)
  (h:(AkN E s z parts,Nat.blt d n.sz,fresh E d)=(some cs,true,true)) (k:Ops P ops l n ((d,.agg cs.toArray) :: E) S Q):Ops P ops (⟨some d,.build T parts.toArray,ty,pos,af,none⟩ :: l) n E S Q:=by
 injection h with h1 h; injection h with h2 h3; exact .buildArr V U O (Ae5 h1) h2 h3 k
def AkO (E:CZ) (s:Nat):Nat->List (Nat×Operand)->Option (List Value)
 | _,[]=>some []
 | i,p :: r=>bif Nat.beq p.1 i then match ev E p.2 with
   | some v=>bif Nat.beq (cellsOf v).length s then match AkO E s (i+1) r with
     | some cs=>some (cellsOf v++cs)
     | none=>none
    else none
   | none=>none
  else none
theorem Ae6 {s:Nat}:∀ {r:List (Nat×Operand)} {i:Nat} {cs:List Value},AkO E s i r=some cs->jC E s i r cs
 | [],_,_,h=>by cases h; exact .n
 | p :: r,i,cs,h=>by
  simp only[AkO] at h
  cases hi:Nat.beq p.1 i with
  | false=>rw[hi] at h; cases h
  | true=>
   rw[hi] at h; simp only[cond_true] at h;obtain rfl:=Nat.eq_of_beq_eq_true hi;split at h
   . rename_i v K
     cases hb:Nat.beq (cellsOf v).length s with
     | false=>rw[hb] at h; cases h
     | true=>
      rw[hb] at h; simp only[cond_true] at h;split at h
      . rename_i q O; cases h; exact .c K rfl (Nat.eq_of_beq_eq_true hb) (Ae6 O)
      . cases h
   . cases h
theorem Ops.bs {s:Nat} {z:Value} {cs:List Value} (k:Nat) (U:P.underlying T=some (.slice e)) (O:∀ w,(sizeOf e).run P w=.ok s w) (V:∀ w,(zeroValue e).run P w=.ok z w)
  (h:(AkO E s 0 parts,parts.length,Nat.ble (k*s) 16777216,Nat.blt d n.sz,fresh E d)=(some cs,k,true,true,true))
  (K:∀ b,Ops P ops l n ((d,.slice (some ⟨b,0,none⟩) k k) :: E) (Sym w0 M I0 I (pto b (.cells cs.toArray e) :: m)) Q) :
  Ops P ops (⟨some d,.buildSlice T k parts.toArray,ty,pos,af,none⟩ :: l) n E (Sym w0 M I0 I m) Q:=by
 injection h with h1 h; injection h with h2 h; injection h with h3 h; injection h with h4 h5; exact .buildSlice k U O V h2.symm h3 (Ae6 h1) h4 h5 K
theorem DrawD.hl {cs:List (Option Nat)} {dn:HC} {X pend:List Nat} {as:List AS} {L:Sh} {c:Nat} {v:Value} {b off:Nat} {vs:List Value} {r:List HA->List HA} (O:∀ w,(isAgg T).run P w=.ok false w) (k:Nat)
  (h:(ops[c]?,fresh E d,(λK=>rI k (L K)),ev (IA dn (EC ⟨some d,.load T x,ty,pos,af,none⟩) E) x,vs[off]?,Nat.blt d n.sz,fresh (IA dn (EC ⟨some d,.load T x,ty,pos,af,none⟩) E) d) =
   (some ⟨some d,.load T x,ty,pos,af,none⟩,true,(λK=>some (pto b (.cells vs.toArray T' fz),r K)),some (.pointer (some ⟨b,off,none⟩)),some v,true,true))
  (U:DrawD P ops n Q w0 M I0 E cs ((c,d,v) :: dn) (c :: X) (c :: pend) as I L):DrawD P ops n Q w0 M I0 E (some c :: cs) dn X pend as I L:=by
 injection h with h1 h; injection h with h2 h; injection h with h3 h; injection h with h4 h; injection h with h5 h; injection h with h6 h7;exact .g h1 rfl h2 (λK=>.load1 O h4 (gY (congrFun h3 K)) h5 h6 h7 .mk) U
theorem PendL.ch {S:List HA->World->Prop} {dn:HC} {f:Nat} {fs:List Nat} {o:Oper} {v:Value} (h:(ops[f]?,o.dst,fresh E d,H9 dn f)=(some o,some d,true,some (d,v))) (g:∀ {K},Ops P ops [o] n (IA dn (EC o) E) (S K) (Fin n (S K) d v))
  (k:PendL P ops n E dn S fs):PendL P ops n E dn S (f :: fs):=by
 injection h with h1 h; injection h with h2 h; injection h with h3 h4; exact .cg h1 h2 h3 h4 (λ_=>g) k
theorem Ops.ln {S:World->Prop} {k:Nat} {K:Array TypeId} (O:P.underlying T=some (.slice e)) (h:(K[0]?,ev E x,Nat.blt d n.sz,fresh E d)=(some T,some (.slice a k cap),true,true))
  (g:Ops P ops l n ((d,.int .i64 (k:Int)) :: E) S Q):Ops P ops (⟨some d,.call ⟨.builtin .len,#[x],K⟩,ty,pos,af,none⟩ :: l) n E S Q:=by
 injection h with h1 h; injection h with h2 h; injection h with h3 h4; exact .len O h1 h2 h3 h4 g
theorem Ops.al {z:Array Value} (K:∀ w,(zeroValue T).run P w=.ok (.agg z) w) (h:(Nat.blt d n.sz,fresh E d)=(true,true))
  (k:∀ b,Ops P ops l n ((d,.pointer (some ⟨b,0,none⟩)) :: E) (Sym w0 M I0 I (pto b (.cells z T) :: m)) Q):Ops P ops (⟨some d,.alloc T,ty,pos,af,none⟩ :: l) n E (Sym w0 M I0 I m) Q:=by
 injection h with h1 h2; exact .allocA K h1 h2 k
theorem Ops.bx {z:Array Value} (h:(ev E x,Nat.blt d n.sz,fresh E d)=(some (.agg z),true,true))
  (k:∀ b,Ops P ops l n ((d,.pointer (some ⟨b,0,none⟩)) :: E) (Sym w0 M I0 I (pto b (.cells z T) :: m)) Q):Ops P ops (⟨some d,.box T x,ty,pos,af,none⟩ :: l) n E (Sym w0 M I0 I m) Q:=by
 injection h with h1 h; injection h with h2 h3; exact .boxA h1 h2 h3 k
theorem Ops.cq {g:FuncId} {args:List Operand} {vs:List Value} {K:Array TypeId} {ρ:Type} {O:ρ->Value} {R:ρ->Prop} (Z:∀ as w,(callFunc g as).run P w=.ok (.enter g as) w) (V:AY P g vs I λ_ v=>∃ r,v=O r∧R r)
  (h:(xG E args,Nat.blt d n.sz,fresh E d)=(some vs,true,true)) (k:∀ r,R r->Ops P ops l n ((d,O r) :: E) (Sym w0 M I0 I m) Q):Ops P ops (⟨some d,.call ⟨.value (.func g),args.toArray,K⟩,ty,pos,af,none⟩ :: l) n E (Sym w0 M I0 I m) Q:=by
 injection h with h1 h; injection h with h2 h3; exact .callP Z h1 V h2 h3 λv ⟨r,W,U⟩=>by subst W; exact k r U
def Aa1:Nat->List Value->Option CZ
 | _,[]=>some []
 | i,v :: vs=>match Aa1 (i+1) vs with
  | some E=>some ((i,v) :: E)
  | none=>none
theorem Aa2:∀ {i:Nat} {vs:List Value} {E:CZ},Aa1 i vs=some E->ArgsE i vs E
 | _,[],_,h=>by cases h; exact .n
 | i,v :: vs,E,h=>by
  simp only[Aa1] at h
  cases hr:Aa1 (i+1) vs with
  | none=>rw[hr] at h; cases h
  | some F=>rw[hr] at h; cases h; exact .c (Aa2 hr)
theorem Fun.en {f:FuncId} {c:Code} {z:Nat} {vs:List Value} {q:List HA} {φ:IH->Value->List HA->Prop} (K:P.funcs[f]? = some fn) (O:fn.ntmps=z) (h:(fn.body,Nat.ble vs.length z,Aa1 0 vs)=(some c,true,some E))
  (k:∀ w M,Cod P c ⟨z,[],none⟩ E (Sym w M I I q) (J7 P fn (S5 w M I φ))):Fun P f vs.toArray I q φ:=by
 injection h with h1 h; injection h with h2 h3; exact .enter K h1 O h2 (Aa2 h3) k
theorem Cod.r1 {z t:Nat} {v:Value} {ψ:IH->Value->Prop} (Z:fn.results=[ResultVar.tmp t].toArray) (h:(look E t,λa w=>Q .ret a w)=(some v,J7 P fn (S5 w0 M I0 λU v l=>l=[]∧ψ U v) .ret)) (K:I0.le I) (W:ψ I v) :
  Cod P .ret ⟨z,[],none⟩ E (Sym w0 M I0 I m) Q:=by
 injection h with h1 h2; exact .ret λc w V O=>(congrFun (congrFun h2 c) w).mpr (B0 Z (.t h1 .n) K W c w V O)
theorem Cod.r0 {z t:Nat} {v:Value} {ψ:IH->Value->Prop} (U:fn.results=[ResultVar.tmp t].toArray) (h:(look E t,λa w=>Q .ret a w)=(some v,J7 P fn (S5 w0 M I λK v l=>l=[]∧ψ K v) .ret)) (O:ψ I v) :
 Cod P .ret ⟨z,[],none⟩ E (Sym w0 M I I m) Q:=.r1 U h rf O
theorem Cod.q1 {z t:Nat} {v:Value} {φ:IH->Value->List HA->Prop} (Z:fn.results=[ResultVar.tmp t].toArray) (K:I0.le I) (O:List Nat) (h:(look E t,pkL O m,λa w=>Q .ret a w)=(some v,some m',J7 P fn (S5 w0 M I0 φ) .ret)) (U:φ I v m') :
  Cod P .ret ⟨z,[],none⟩ E (Sym w0 M I0 I m) Q:=by
 injection h with h1 h; injection h with h2 h3; exact .ret λc w W V=>(congrFun (congrFun h3 c) w).mpr (CT Z (.t h1 .n) K (.o O h2) U c w W V)
theorem DrawD.gn {cs:List (Option Nat)} {dn:HC} {X pend:List Nat} {as:List AS} {L:Sh} {c j s:Nat} {b U:Bool} {K:Op} (h:(ops[c]?,kU ops j,look (IA dn (EC ⟨some d,K,ty,pos,af,some (j,b)⟩) E) s,Nat.blt d n.sz,fresh E d,fresh (IA dn (EC ⟨some d,K,ty,pos,af,some (j,b)⟩) E) d)=(some (⟨some d,K,ty,pos,af,some (j,b)⟩:Oper),some s,some (.bool U),true,true,true)) (O:U = !b)
  (k:DrawD P ops n Q w0 M I0 E cs ((c,d,undef) :: dn) (c :: X) (c :: pend) as I L):DrawD P ops n Q w0 M I0 E (some c :: cs) dn X pend as I L:=by
 injection h with h1 h; injection h with h2 h; injection h with h3 h; injection h with h4 h; injection h with h5 h6;exact .g h1 rfl h5 (λ_=>.gno h2 h3 O h4 h6 .mk) k
theorem DrawD.aP {z:Array Value} {cs:List (Option Nat)} {dn:HC} {X pend:List Nat} {as:List AS} {L:Sh} {c:Nat} (O:∀ w,(zeroValue T).run P w=.ok (.agg z) w) (h:(ops[c]?,Nat.blt d n.sz,fresh E d,fresh (IA dn (EC ⟨some d,.alloc T,ty,pos,af,none⟩) E) d,uF X (EC ⟨some d,.alloc T,ty,pos,af,none⟩))=(some (⟨some d,.alloc T,ty,pos,af,none⟩:Oper),true,true,true,true))
  (k:DrawD P ops n Q w0 M I0 E cs dn X pend (⟨c,d,IA dn (EC ⟨some d,.alloc T,ty,pos,af,none⟩) E,λb=>.pointer (some ⟨b,0,none⟩),λb=>pto b (.cells z T (0,0))⟩ :: as) I L):DrawD P ops n Q w0 M I0 E (some c :: cs) dn X pend as I L:=by
 injection h with h1 h; injection h with h2 h; injection h with h3 h; injection h with h4 h5;exact .a (λb=>.pointer (some ⟨b,0,none⟩)) (λb=>pto b (.cells z T (0,0))) h1 rfl h3 h5 (λ_ L K ex=>.al O (by rw[h2,h4]) λb=>.mk (val:=λb=>.pointer (some ⟨b,0,none⟩)) (atom:=λb=>pto b (.cells z T (0,0))) K b) k
end Go.Fw
