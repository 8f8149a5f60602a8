import Derived.Test.YtdfongaafdnljaaGreatM11
set_option linter.all false
set_option autoImplicit true
set_option relaxedAutoImplicit true
section
set_option maxRecDepth 100000
namespace Go.Am
open List
theorem fZ_.src (h:fZ_ H b a cs is):∀ i (hi:i < is.length),∃ p,cs[i*5+4]? =some (.sl p is[i].files.length 3)∧c1_ H p is[i].files∧∀ l o,p=some (l,o)→b≤l∧∀ D,a≠some (l,D):=by
 induction h with
 | nil=>intro i hi; cases hi
 | @cons p x cs is I F _ G=>
  intro i hi;cases i with
  | zero=>exact⟨p,rfl,I,F⟩
  | succ i=>
   have ⟨q,r,A⟩:=G i (by grind);refine⟨q,?_,A⟩;rw[getElem?_append_right (by simp [iz_]; omega),show (i+1)*5+4 - (iz_ p x).length=i*5+4 by simp [iz_]; omega];exact r
theorem cH_.src (h:cH_ H b a is) (i:Nat) (hi:i < is.length):∃ l p,a=some (l,0)∧b≤l∧gt H l (i*5)=some (.str is[i].name)∧gt H l (i*5+1)=some (.int .i64 is[i].kind)∧gt H l (i*5+1+1)=some (.str is[i].parent)∧gt H l (i*5+1+1+1)=some (.str is[i].label)∧
 gt H l (i*5+1+1+1+1)=some (.sl p is[i].files.length 3)∧c1_ H p is[i].files∧(∀ r o,p=some (r,o)→b≤r∧r≠l)∧∃ cs,H[l]? =some (.row true 45 cs)∧cs.length=is.length*5:=by
 rcases h with⟨_,rfl⟩ | ⟨l,cs,rfl,N,D,A⟩
 ·cases hi
 ·have ⟨p,U,W,V,O,I,_⟩:=A.at i hi;have ⟨q,F,J,G⟩:=A.src i hi;rw[I] at F;cases F;refine⟨l,p,rfl,N,?_,?_,?_,?_,?_,J,fun r o e=>⟨(G r o e).1,fun z=>(G r o e).2 0 (by rw[z])⟩,cs,D,A.len⟩<;>rw[bw_ D]<;>assumption
theorem c1_.cells (h:c1_ H p fs):cells? H p (fs.length*3)=some (ci_ fs):=by
 rcases h with⟨rfl,rfl⟩ | ⟨l,rfl,h⟩
 ·rfl
 ·have r:=gU_ fs;unfold cells?;grind
def BS_ (pis:List (Pl × InfoR)):List GV:=pis.flatMap fun q=>iz_ q.1 q.2
theorem HU_ (h:Own H b 45 a (r.length*5) (BS_ r)) (G:∀ q∈r,f2_ H q.1 q.2.files):dT_ H a (r.map (·.2)):=by
 intro i A;rw[length_map] at A;have ⟨l,e,D⟩:=wt_ h (by omega);have F:∀ q:Pl × InfoR,(iz_ q.1 q.2).length=5:=fun _=>rfl;refine⟨l,0,(r[i]).1,e,?_,?_,?_,?_,?_,?_⟩
 ·rw[D,kN,getElem_map]; exact cZ_ F _ i A 0 (by omega)
 ·rw[D,kN,getElem_map]; exact cZ_ F _ i A 1 (by omega)
 ·rw[D,kN,getElem_map]; exact cZ_ F _ i A 2 (by omega)
 ·rw[D,kN,getElem_map]; exact cZ_ F _ i A 3 (by omega)
 ·rw[D,kN,getElem_map]; exact cZ_ F _ i A 4 (by omega)
 ·grind
section
variable {H:Hp} {Q:Post}
theorem fT_ {b:Nat} {a:Pl} {is:List InfoR} (h:cH_ H b a is) (hn:is.length≤900) (hf:∀ i∈is,i.files.length≤100000) (hQ:∀ H' a',H<+:H'→cH_ H' H.length a' is→Q (.g (.sl a' is.length 5)) H'):a9_ [.g (.sl a is.length 5)] H Q:=by
 refine⟨is.length+2,?_⟩;rw[xa_];have etn:∀ k:Nat,tN (k:Int)=k:=fun _=>rfl;have go:∀ (f k:Nat) (G:Hp) (a':Pl),f=is.length - k→k≤is.length→H<+:G→cH_ G H.length a' (is.take k)→a9_.l3 (f+1) a is.length a' k ((k:Nat):Int) G Q:=by
  intro f;induction f with
  | zero=>
   intro k G a' hf' hk hG ha;rw[a9_.l3_eq];refine aa_ (fun e=>by simp at e; omega) (fun e=> ?_);have hke:k=is.length:=by omega
   rw[hke,take_length] at ha;rw[hke];exact hQ G a' hG ha
  | succ f ih=>
   intro k G a' hf' hk hG ha;have hkl:k < is.length:=by omega
   rw[a9_.l3_eq];refine aa_ (fun e=> ?_) (fun e=>by simp at e; omega);refine ab_ rfl (ab_ (by simp; omega) ?_);obtain⟨l,p,rfl,hbl,r1,r2,r3,r4,r5,r6,_⟩:=(h.pre hG).src k hkl;simp only[af_,etn,kN,kQ];rw[ad_ r1,ax_,ad_ r2,ai_,ad_ r3,ax_,ad_ r4,ax_,ad_ r5,ah_];refine ab_ rfl ?_;rw[dX_ r6.cells];have hfk:=hf _ (kE hkl);refine⟨⟨by unfold Lim; omega,gU_ _⟩,?_⟩;simp only[fb_];refine ab_ rfl ?_;have hti:(is.take k).length=k:=by rw[length_take]; omega
   have key:=s1_ (i:=is[k]) (K:=fun a'' n' G'=>a9_.l3 (f+1) (some (l,0)) is.length a'' n' (ac_ .i64 (((k:Nat):Int)+1)) G' Q) (p:=some (G.length,0)) (ha.pre (b7_ G (.row true 122 (ci_ is[k].files)))) (by rw[kI]; have:=hG.length_le; omega) (.inr ⟨G.length,rfl,by simp⟩) (fun l' o e=>by
    cases e;exact⟨hG.length_le,fun o' q=>by subst q; have:=ha.lt; omega⟩) (by omega) fun a'' G' ha' hk' hl'=>by
    rw[kI,hti,length_singleton,an_ (by omega)];refine ih (k+1) G' a'' (by omega) hkl (pw_ (by have:=hG.length_le; rw[kI] at hl'; omega) fun l hl=> ?_) ?_
    ·rw[hk' l hl,kM (by have:=hG.length_le; omega),br_ hG hl]
    ·rw[take_add_one,kG hkl]; exact ha'
   rw[hti] at key;exact key
 exact go _ 0 H none rfl (kP _) (prefix_refl _) (.inl ⟨rfl,by simp⟩)
theorem j2_ {a:Pl} {is:List InfoR} (h:dT_ H a is) (hn:is.length≤900) {m:Nat} (hQ:∀ H' a',H<+:H'→dT_ H' a' (is.eraseIdx m)→Q (.g (.sl a' (is.eraseIdx m).length 5)) H'):bK_ [.g (.sl a is.length 5),.g (.int .i64 ((m:Nat):Int))] H Q:=by
 refine⟨is.length+2,?_⟩;rw[sb_];have etn:∀ k:Nat,tN (k:Int)=k:=fun _=>rfl;have go:∀ (f k:Nat) (G:Hp) (a':Pl) (n':Nat) (pis:List (Pl × InfoR)),f=is.length - k→k≤is.length→H<+:G→Own G H.length 45 a' (n'*5) (BS_ pis)→n'=pis.length→(∀ q∈pis,f2_ H q.1 q.2.files)→pis.map (·.2)=(is.take k).eraseIdx m→
  bK_.l3 (f+1) a is.length ((m:Nat):Int) a' n' ((k:Nat):Int) G Q:=by
  intro f;induction f with
  | zero=>
   intro k G a' n' pis hf' hk hG ho hn' hp he;rw[bK_.l3_eq];refine aa_ (fun e=>by simp at e; omega) (fun e=> ?_);rw[take_of_length_le (by omega)] at he;subst hn';have hr:=HU_ ho fun q hq=>(hp q hq).pre hG;have:=hQ G a' hG;rw[←he,length_map] at this;exact this hr
  | succ f ih=>
   intro k G a' n' pis hf' hk hG ho hn' hp he;have hkl:k < is.length:=by omega
   rw[bK_.l3_eq];refine aa_ (fun e=> ?_) (fun e=>by simp at e; omega);have w1:ac_ .i64 (((k:Nat):Int)+1)=((k+1:Nat):Int):=an_ (by omega);have ht:=pY_ (i:=m) hkl;have hnl:pis.length≤900:=by
    have:=congrArg length he;rw[length_map] at this;rw[this];exact Nat.le_trans (length_eraseIdx_le _ _) (by rw[length_take]; omega)
   refine aa_ (fun e=> ?_) (fun e=> ?_)
   ·have e': ¬ k=m:=by simp at e; omega
    rw[if_neg e'] at ht;refine ab_ rfl (ab_ (by simp; omega) ?_);obtain⟨l,o,p,rfl,r1,r2,r3,r4,r5,r6⟩:=(h.pre hG) _ hkl;have r6':f2_ H p is[k].files:=by
     obtain⟨l',o',p',e1,_,_,_,_,q5,q6⟩:=h k hkl;cases e1;have:=d7_ hG q5;rw[r5] at this;cases this;exact q6
    simp only[af_,etn];rw[ad_ r1,ax_,ad_ r2,ai_,ad_ r3,ax_,ad_ r4,ax_,ad_ r5,ah_];refine ab_ rfl ?_;refine kb_ (H0:=H) (by omega) hG ho (m:=1) rfl (by unfold Lim; omega) fun x' G' o' ex fr=> ?_;rw[w1];refine ih (k+1) G' x' _ (pis++[(p,is[k])]) (by omega) hkl ex.pre ?_ (by rw[kI,hn']; rfl) (fun q hq=> ?_) (by rw[ht,kL,he]; rfl)
    ·unfold BS_;rw[flatMap_append,flatMap_singleton];exact o'
    ·rcases kD.1 hq with z | z
     ·exact hp q z
     ·have:q=(p,is[k]):=by simpa using z
      subst this; exact r6'
   ·have e':k=m:=by simp at e; omega
    rw[if_pos e'] at ht;rw[w1];exact ih (k+1) G a' n' pis (by omega) hkl hG ho hn' hp (by rw[ht]; exact he)
 exact go _ 0 H none 0 [] rfl (kP _) (prefix_refl _) (.inl ⟨rfl,rfl,rfl⟩) rfl (fun q hq=>by cases hq) (by simp)
theorem mq_ {a p:Pl} {is:List InfoR} {s1 s3 s4:ByteArray} {k2:Int} {m:Nat} (h:dT_ H a is) (hn:is.length≤900) (hQ:∀ H' a' n',H<+:H'→Q (.g (.sl a' n' 5)) H'):
 a6_ [.g (.sl a is.length 5),.agg [.str s1,.int .i64 k2,.str s3,.str s4,.sl p m 3]] H Q:=by
 refine⟨2*is.length+2,?_⟩;rw[xh_];have etn:∀ k:Nat,tN (k:Int)=k:=fun _=>rfl;have go:∀ (f k F:Nat) (G:Hp) (a':Pl) (n':Nat) (cs:List GV) (d:Bool),f=is.length - k→k≤is.length→2*f+1≤F→H<+:G→Own G H.length 45 a' (n'*5) cs→n'≤k+(match d with | true=>1 | false=>0)→
  a6_.l4 F a is.length s1 k2 s3 s4 p m a' n' d ((k:Nat):Int) G Q:=by
  intro f;induction f with
  | zero=>
   intro k F G a' n' cs d hf' hk hF hG ho hn';have hn2:n'≤k+1:=by cases d<;>dsimp only at hn'<;>omega
   obtain⟨F,rfl⟩:∃ G,F=G+1:=⟨F - 1,by omega⟩;rw[a6_.l4_eq];refine aa_ (fun e=>by simp at e; omega) (fun e=> ?_);refine aa_ (fun e=> ?_) (fun e=>hQ G a' n' hG);refine ab_ rfl ?_;exact kb_ (H0:=H) (by omega) hG ho (m:=1) rfl (by unfold Lim; omega) fun x' G' o' ex fr=>hQ G' _ _ ex.pre
  | succ f ih=>
   intro k F G a' n' cs d hf' hk hF hG ho hn';have hkl:k < is.length:=by omega
   obtain⟨F,rfl⟩:∃ G,F=G+1+1:=⟨F - 2,by omega⟩;rw[a6_.l4_eq];refine aa_ (fun e=> ?_) (fun e=>by simp at e; omega);have w1:ac_ .i64 (((k:Nat):Int)+1)=((k+1:Nat):Int):=an_ (by omega);have next:∀ (G:Hp) (a':Pl) (n':Nat) (cs:List GV) (d:Bool),H<+:G→Own G H.length 45 a' (n'*5) cs→n'≤k+(match d with | true=>1 | false=>0)→a6_.l9 (F+1) a is.length s1 k2 s3 s4 p m a' n' d ((k:Nat):Int) G Q:=by
    intro G a' n' cs d hG ho hn';have hn2:n'≤k+1:=by cases d<;>dsimp only at hn'<;>omega
    rw[a6_.l9_eq];refine ab_ rfl (ab_ (by simp; omega) ?_);obtain⟨l,o,p',e',r1,r2,r3,r4,r5,r6⟩:=(h.pre hG) _ hkl;rw[e'];simp only[af_,etn];rw[ad_ r1,ax_,ad_ r2,ai_,ad_ r3,ax_,ad_ r4,ax_,ad_ r5,ah_];refine ab_ rfl ?_;refine kb_ (H0:=H) (by omega) hG ho (m:=1) rfl (by unfold Lim; omega) fun x' G' o' ex fr=> ?_;rw[w1,←e'];exact ih (k+1) F G' x' _ _ d (by omega) hkl (by omega) ex.pre o' (by cases d<;>dsimp only at hn' ⊢ <;>omega)
   refine aa_ (fun ed=> ?_) (fun ed=>next G a' n' cs d hG ho hn');have hd:d=false:=dY_ ed;subst hd;dsimp only at hn';refine ab_ rfl (ab_ (by simp; omega) ?_);obtain⟨l,o,p',e',r1,r2,r3,r4,r5,r6⟩:=(h.pre hG) _ hkl;rw[e'];simp only[af_,etn,kQ];rw[ad_ r1,ax_];refine aa_ (fun e=> ?_) (fun e=> ?_)
   ·refine ab_ rfl ?_;refine kb_ (H0:=H) (by omega) hG ho (m:=1) rfl (by unfold Lim; omega) fun x' G' o' ex fr=> ?_;rw[←e'];exact next G' x' _ _ true ex.pre o' (by dsimp only; omega)
   ·rw[←e'];exact next G a' n' cs false hG ho (by dsimp only; omega)
 exact go _ 0 _ H none 0 [] false rfl (kP _) (by omega) (prefix_refl _) (.inl ⟨rfl,rfl,rfl⟩) (by dsimp only; omega)
theorem qB_ (h:f2_ H p fs) (Y:fs.length≤100000)
 (V:∀ k (I:k < fs.length),fs[k].1=s→Q (.g (.int .i64 ((k:Nat):Int))) H) (U:(∀ f∈fs,f.1≠s)→Q (.g (.int .i64 (-1))) H):cf_ [.g (.sl p fs.length 3),.g (.str s)] H Q:=by
 refine⟨fs.length+2,?_⟩;rw[tK_];have W:∀ k:Nat,tN (k:Int)=k:=fun _=>rfl;have go:∀ (f k),f=fs.length - k→k≤fs.length→(∀ j D,j < k→fs[j].1≠s)→cf_.l2 (f+1) p fs.length s (k) H Q:=by
  intro f;induction f with
  | zero=>
   intro k G I J;rw[cf_.l2_eq];refine aa_ (fun e=>by simp at e; omega) (fun _=>U fun f G=> ?_);obtain⟨j,D,rfl⟩:=kK G;grind
  | succ f O=>
   intro k G I J;have A:k < fs.length:=by omega
   rw[cf_.l2_eq];refine aa_ (fun e=> ?_) (fun e=>by simp at e; omega);refine ab_ rfl (ab_ (by simp; omega) ?_);obtain⟨l,o,rfl,N,_⟩:=h _ A;simp [af_];rw[ad_ N,ax_];refine aa_ (fun e=>V k A (by simpa using e)) (fun e=> ?_);rw[an_ (by omega)];refine O (k+1) (by omega) A fun j D F=> ?_;rcases Nat.lt_or_eq_of_le (Nat.le_of_lt_succ F) with z | z
   ·exact J j D z
   ·subst z; simpa using e
 grind
def fJ_ (is:List InfoR) (s:ByteArray):Int:=match dl_ is s with | none=>1903 | some i=>match eqI i.kind 0 with | true=>0 | false=>1905
theorem Bc_ (A:hB_ is) (r:(is.any fun y=>decide (y.name=s))=true):∃ G:e1_ is s < is.length,dl_ is s=some is[e1_ is s]:=by
 obtain⟨D,F⟩:=jX_ A;rw[D] at r;have ⟨i,I⟩:=Option.isSome_iff_exists.1 r;grind
theorem k8_ (A:hB_ is) (r:(is.any fun y=>decide (y.name=s))=false):dl_ is s=none:=by
 rw[(jX_ A).1] at r;cases D:dl_ is s with
 | none=>rfl
 | some i=>rw[D] at r; cases r
theorem kh_ (h:dT_ H a is) (F:hB_ is) (U:is.length≤1000)
 (J:∀ e,e≠0→fJ_ is s=e→Q (.tup [.s (.int .i64 0),.s (.int .i64 e)]) H)
 (O:fJ_ is s=0→∀ G:e1_ is s < is.length,dl_ is s=some is[e1_ is s]→Q (.tup [.s (.int .i64 ((e1_ is s:Nat):Int)),.s (.int .i64 0)]) H):
 es_ [.g (.sl a is.length 5),.g (.str s)] H Q:=by
 refine⟨1,?_⟩;rw[tJ_];have D:∀ k:Nat,tN (k:Int)=k:=fun _=>rfl;refine fH_ h F U (fun A=> ?_) (fun A=> ?_)
 ·simp only[aN_,ai_];have ⟨G,I⟩:=Bc_ F A;refine aa_ (fun e=>by simp at e; omega) (fun _=> ?_);refine ab_ rfl (ab_ (by simp_all) ?_);obtain⟨l,o,p,rfl,V,N,_⟩:=h _ G;simp only[af_,D];rw[ad_ N,ai_];refine aa_ (fun e=>J 1905 (by simp) (by unfold fJ_; rw[I]; dsimp; rw[dY_ e])) (fun e=>O (by unfold fJ_; rw[I]; dsimp; rw[eE_ e]) G I)
 ·simp only[aN_,ai_];refine aa_ (fun _=>J 1903 (by simp) (by unfold fJ_; rw[k8_ F A])) (fun e=>by simp_all)
end
end Go.Am
end
section
set_option maxRecDepth 100000
namespace Go.Am
open List
def kP_ (is:List InfoR) (parent:ByteArray):Bool:=decide (parent=mkS [])||(match dl_ is parent with | none=>false | some y=>eqI y.kind 2)
def g8_ (is:List InfoR) (name parent:ByteArray) (kind:Int):Int:=match bk_ name 4 with
 | false=>1901
 | true=>match decide (parent=mkS [])||bk_ parent 4 with
  | false=>1901
  | true=>match eqI kind 0||eqI kind 1 with
   | false=>1905
   | true=>match (dl_ is name).isSome with
    | true=>1902
    | false=>match kP_ is parent with
     | false=>1904
     | true=>match leI 6 (is.length:Int) with
      | true=>1910
      | false=>0
theorem wj_:∀ (f k:Nat),f=is.length - k→bA_ is f k=true→∀ j (A:j < is.length),k≤j→cX_ is[j]=true
 | 0,k,D,h=>fun j A r=>by omega
 | f+1,k,D,h=>fun j A r=>by
  rw[bA_] at h;have F:k < is.length:=by omega
  rw[kG F] at h;simp at h;rcases Nat.lt_or_eq_of_le r with q | q
  ·exact wj_ f (k+1) (by omega) h.2.2 j A q
  ·grind
theorem wc_ (h:bA_ is is.length 0=true):∀ i∈is,cX_ i=true:=fun i r=>by
 obtain⟨j,A,rfl⟩:=kK r;exact wj_ _ 0 rfl h j A (kP _)
theorem tg_ (h:cX_ i=true):bk_ i.name 4=true:=by
 unfold cX_ at h;grind
theorem EZ_ (h:bA_ is is.length 0=true):(is.any fun y=>decide (y.name=mkS []))=false:=by
 rw[any_eq_false];intro x r e;have:=do_ (tg_ (wc_ h x r));simp_all
section
variable {H:Hp} {Q:Post}
theorem pv_ {b:Nat} {a:Pl} {is:List InfoR} {name parent:ByteArray} {kind:Int} (h:cH_ H b a is) (ha:hB_ is) (hf:bA_ is is.length 0=true) (hn:is.length≤900)
 (hsz:∀ x∈is,x.name.size≤140737488351232∧x.files.length≤100000∧∀ f∈x.files,f.1.size≤140737488351232) (hs1:name.size≤140737488351232) (hs2:parent.size≤140737488351232)
 (hQ:∀ H' a' n',H<+:H'→Q (.tup [.s (.sl a' n' 5),.s (.int .i64 (g8_ is name parent kind))]) H'):
 be_ [.g (.sl a is.length 5),.g (.str name),.g (.str parent),.g (.int .i64 kind)] H Q:=by
 refine⟨100010,?_⟩;rw[rW_];have etn:∀ k:Nat,tN (k:Int)=k:=fun _=>rfl;have hrd:=h.rd;have hfl:∀ i∈is,i.files.length≤100000:=fun i hi=>(hsz i hi).2.1;have copy:∀ {m:Nat} {p:Pl} {G:Hp},g8_ is name parent kind=0→H<+:G→cl a9_ [(.g (.sl a is.length 5))] G fun r24 H25=>
  rG r24 fun v26=>
  dL 5 v26 fun x27 n28=>
  cl a6_ [(.g (.sl x27 n28 5)),(.agg [(.str name),(.int .i64 kind),(.str parent),(.str (mkS [])),(.sl p m 3)])] H25 fun r29 H30=>
  rG r29 fun v31=>
  dL 5 v31 fun x32 n33=>
  Q (.tup [(.s (.sl x32 n33 5)),(.s (.int .i64 0))]) H30:=fun {m p G} e hG=>by
  refine fT_ (h.pre hG) hn hfl fun H1 a1 p1 h1=> ?_;simp only[aN_,ah_];refine mq_ h1.rd hn fun H2 a2 n2 p2=> ?_;simp only[aN_,ah_];have:=hQ H2 a2 n2 (hG.trans (p1.trans p2));rw[e] at this;exact this
 have l17:g8_ is name parent kind=0→∀ hp:e1_ is parent < is.length,∀ (f j F:Nat) (G:Hp) (a':Pl) (n':Nat) (cs:List GV),f=is[e1_ is parent].files.length - j→j≤is[e1_ is parent].files.length→f+1≤F→H<+:G→Own G H.length 122 a' (n'*3) cs→n'≤j→
  be_.l17 F a is.length ((e1_ is parent:Nat):Int) name kind parent (mkS []) a' n' ((j:Nat):Int) G Q:=by
  intro e0 hp f;obtain⟨l,o,p,e1,r1,r2,r3,r4,r5,r6⟩:=hrd _ hp;have hfk:=hfl _ (kE hp);induction f with
  | zero=>
   intro j F G a' n' cs hf' hj hF hG ho hn';obtain⟨F,rfl⟩:∃ G,F=G+1:=⟨F - 1,by omega⟩;rw[be_.l17_eq];refine ab_ rfl (ab_ (by simp; omega) ?_);rw[e1];simp only[af_,etn];rw[ad_ (d7_ hG r5),ah_];refine aa_ (fun e=>by simp at e<;>omega) (fun _=> ?_);rw[←e1];exact copy e0 hG
  | succ f ih=>
   intro j F G a' n' cs hf' hj hF hG ho hn';have hjl:j < is[e1_ is parent].files.length:=by omega
   obtain⟨F,rfl⟩:∃ G,F=G+1:=⟨F - 1,by omega⟩;rw[be_.l17_eq];refine ab_ rfl (ab_ (by simp; omega) ?_);rw[e1];simp only[af_,etn];rw[ad_ (d7_ hG r5),ah_];refine aa_ (fun e=> ?_) (fun e=>by simp at e<;>omega);refine ab_ rfl (ab_ (by simp; omega) ?_);rw[ad_ (d7_ hG r5),ah_];refine ab_ rfl (ab_ (by simp; omega) ?_);obtain⟨l2,o2,rfl,q1,q2,q3⟩:=(r6.pre hG) _ hjl;simp only[af_,etn];rw[ad_ q1,ax_,ad_ q2,ax_,ad_ q3,ak_];refine ab_ rfl ?_;refine kb_ (H0:=H) (by omega) hG ho (m:=1) rfl (by unfold Lim; omega) fun x' G' o' ex fr=> ?_;rw[an_ (by omega),←e1];exact ih (j+1) F G' x' _ _ (by omega) hjl (by omega) ex.pre o' (by omega)
 have rest:∀ i3:Int,((i3=((e1_ is parent:Nat):Int)∧(is.any fun y=>decide (y.name=parent))=true)∨(i3= -1∧(is.any fun y=>decide (y.name=parent))=false))→bk_ name 4=true→(decide (parent=mkS [])||bk_ parent 4)=true→(eqI kind 0||eqI kind 1)=true→
  cl b1_ [(.g (.sl a is.length 5)),(.g (.str name))] H fun r16 H17=>
   rG r16 fun v18=>
   dI .i64 v18 fun i19=>
   b2_ (leI 0 i19)
   (Q (.tup [(.s (.sl none 0 5)),(.s (.int .i64 1902))]) H17)
   (b2_ (!(ey_ parent (mkS [])))
    (b2_ (ltI i3 0)
     (Q (.tup [(.s (.sl none 0 5)),(.s (.int .i64 1904))]) H17)
     (chk true (chk ((leI 0 i3)&&(ltI i3 (nI is.length))) (pS a fun n20 n21=>
      rd H17 n20 ((n21+((tN i3)*5))+1) fun v22=>
      dI .i64 v22 fun i23=>
      b2_ (!(eqI i23 2))
      (Q (.tup [(.s (.sl none 0 5)),(.s (.int .i64 1904))]) H17)
      (b2_ (leI 6 (nI is.length))
       (Q (.tup [(.s (.sl none 0 5)),(.s (.int .i64 1910))]) H17)
       (b2_ (leI 0 i3)
        (be_.l17 100009 a is.length i3 name kind parent (mkS []) none 0 0 H17 Q)
        (cl a9_ [(.g (.sl a is.length 5))] H17 fun r24 H25=>
         rG r24 fun v26=>
         dL 5 v26 fun x27 n28=>
         cl a6_ [(.g (.sl x27 n28 5)),(.agg [(.str name),(.int .i64 kind),(.str parent),(.str (mkS [])),(.sl none 0 3)])] H25 fun r29 H30=>
         rG r29 fun v31=>
         dL 5 v31 fun x32 n33=>
         Q (.tup [(.s (.sl x32 n33 5)),(.s (.int .i64 0))]) H30)))))))
    (b2_ (leI 6 (nI is.length))
     (Q (.tup [(.s (.sl none 0 5)),(.s (.int .i64 1910))]) H17)
     (b2_ (leI 0 i3)
      (be_.l17 100009 a is.length i3 name kind parent (mkS []) none 0 0 H17 Q)
      (cl a9_ [(.g (.sl a is.length 5))] H17 fun r34 H35=>
       rG r34 fun v36=>
       dL 5 v36 fun x37 n38=>
       cl a6_ [(.g (.sl x37 n38 5)),(.agg [(.str name),(.int .i64 kind),(.str parent),(.str (mkS [])),(.sl none 0 3)])] H35 fun r39 H40=>
       rG r39 fun v41=>
       dL 5 v41 fun x42 n43=>
       Q (.tup [(.s (.sl x42 n43 5)),(.s (.int .i64 0))]) H40)))):=by
  intro i3 hi3 w1 w2 w3;have e0:g8_ is name parent kind=match (dl_ is name).isSome with
   | true=>1902
   | false=>match kP_ is parent with
    | false=>1904
    | true=>match leI 6 (is.length:Int) with
     | true=>1910
     | false=>0:=by unfold g8_; rw[w1,w2,w3]
  have h0:=hQ H none 0 (prefix_refl _);refine fH_ hrd ha (by omega) (fun hin=> ?_) (fun hin=> ?_)
  ·simp only[aN_,ai_];refine aa_ (fun _=> ?_) (fun e=>by simp at e<;>omega);rw[(jX_ ha).1] at hin;rw[hin] at e0;rw[e0] at h0; exact h0
  ·simp only[aN_,ai_];rw[k8_ ha hin] at e0;dsimp only[Option.isSome_none] at e0;refine aa_ (fun e=>by simp at e) (fun _=> ?_);refine aa_ (fun e=> ?_) (fun e=> ?_)
   ·have hne: ¬ parent=mkS []:=by simpa using e
    have hm:kP_ is parent=match dl_ is parent with | none=>false | some y=>eqI y.kind 2:=by unfold kP_; rw[decide_eq_false hne,Bool.false_or]
    rcases hi3 with⟨rfl,hin3⟩ | ⟨rfl,hin3⟩
    ·obtain⟨hp,hfi⟩:=Bc_ ha hin3;rw[hfi] at hm;dsimp only at hm;refine aa_ (fun e=>by simp at e<;>omega) (fun _=> ?_);refine ab_ rfl (ab_ (by simp; omega) ?_);obtain⟨l,o,p,e1,r1,r2,_⟩:=hrd _ hp;rw[e1];simp only[af_,etn];rw[ad_ r2,ai_];refine aa_ (fun e=> ?_) (fun e=> ?_)
     ·rw[hm,dY_ e] at e0;rw[e0] at h0; exact h0
     rw[hm,eE_ e] at e0;refine aa_ (fun e=> ?_) (fun e=> ?_)
     ·rw[show leI 6 (is.length:Int)=true from e] at e0;rw[e0] at h0; exact h0
     rw[show leI 6 (is.length:Int)=false from e] at e0;refine aa_ (fun _=> ?_) (fun e=>by simp at e<;>omega);rw[←e1];have hfk:=hfl _ (kE hp);exact l17 e0 hp _ 0 100009 H none 0 [] rfl (kP _) (by omega) (prefix_refl _) (.inl ⟨rfl,rfl,rfl⟩) (by omega)
    ·rw[k8_ ha hin3] at hm;dsimp only at hm;rw[hm] at e0;refine aa_ (fun _=> ?_) (fun e=>by simp at e);rw[e0] at h0; exact h0
   ·have hpe:parent=mkS []:=by simpa using e
    have hm:kP_ is parent=true:=by unfold kP_; rw[decide_eq_true hpe]; rfl
    rw[hm] at e0;refine aa_ (fun e=> ?_) (fun e=> ?_)
    ·rw[show leI 6 (is.length:Int)=true from e] at e0;rw[e0] at h0; exact h0
    rw[show leI 6 (is.length:Int)=false from e] at e0;have hne:=EZ_ hf;rw[←hpe] at hne;rcases hi3 with⟨_,hin3⟩ | ⟨rfl,_⟩
    ·rw[hne] at hin3; cases hin3
    ·refine aa_ (fun e=>by simp at e) (fun _=> ?_);exact copy e0 (prefix_refl _)
 have h0:=hQ H none 0 (prefix_refl _);have kindc:(eqI kind 0||eqI kind 1)=false→bk_ name 4=true→(decide (parent=mkS [])||bk_ parent 4)=true→Q (.tup [.s (.sl none 0 5),.s (.int .i64 1905)]) H:=fun k w1 w2=>by
  rw[show g8_ is name parent kind=1905 by unfold g8_; rw[w1,w2,k]] at h0; exact h0
 have named:bk_ name 4=false→Q (.tup [.s (.sl none 0 5),.s (.int .i64 1901)]) H:=fun w1=>by
  rw[show g8_ is name parent kind=1901 by unfold g8_; rw[w1]] at h0; exact h0
 have main:∀ i3:Int,((i3=((e1_ is parent:Nat):Int)∧(is.any fun y=>decide (y.name=parent))=true)∨(i3= -1∧(is.any fun y=>decide (y.name=parent))=false))→True:=fun _ _=>trivial;refine fH_ hrd ha (by omega) (fun hin=> ?_) (fun hin=> ?_)
 all_goals
  simp only[aN_,ai_]
  refine dU_ hrd ha (by omega) hsz ?_
  simp only[aN_,ak_]
  rw[hf]
  refine aa_ (fun e=>by cases e) (fun _=> ?_)
  refine cb_ hs1 ?_
  simp only[aN_,ak_]
  refine aa_ (fun e=>named (dY_ e)) (fun e=> ?_)
  have w1:=eE_ e
  refine aa_ (fun e=> ?_) (fun e=> ?_)
  ·have hne: ¬ parent=mkS []:=by simpa using e
   refine cb_ hs2 ?_;simp only[aN_,ak_];refine aa_ (fun e=> ?_) (fun e=> ?_)
   ·rw[show g8_ is name parent kind=1901 by unfold g8_; rw[w1,decide_eq_false hne,dY_ e]; rfl] at h0; exact h0
   have w2:(decide (parent=mkS [])||bk_ parent 4)=true:=by rw[eE_ e,Bool.or_true]
   refine aa_ (fun e=> ?_) (fun e=> ?_)
   ·refine aa_ (fun e2=>kindc (by rw[dY_ e,dY_ e2]; rfl) w1 w2) (fun e2=> ?_);exact rest _ (by first | exact .inl ⟨rfl,hin⟩ | exact .inr ⟨rfl,hin⟩) w1 w2 (by rw[eE_ e2,Bool.or_true])
   ·exact rest _ (by first | exact .inl ⟨rfl,hin⟩ | exact .inr ⟨rfl,hin⟩) w1 w2 (by rw[eE_ e,Bool.true_or])
  ·have hpe:parent=mkS []:=by simpa using e
   have w2:(decide (parent=mkS [])||bk_ parent 4)=true:=by rw[decide_eq_true hpe]; rfl
   refine aa_ (fun e=> ?_) (fun e=> ?_)
   ·refine aa_ (fun e2=>kindc (by rw[dY_ e,dY_ e2]; rfl) w1 w2) (fun e2=> ?_);exact rest _ (by first | exact .inl ⟨rfl,hin⟩ | exact .inr ⟨rfl,hin⟩) w1 w2 (by rw[eE_ e2,Bool.or_true])
   ·exact rest _ (by first | exact .inl ⟨rfl,hin⟩ | exact .inr ⟨rfl,hin⟩) w1 w2 (by rw[eE_ e,Bool.true_or])
end
end Go.Am
end
section
set_option maxRecDepth 100000
namespace Go.Am
open List
def fR_ (is:List InfoR) (name path content:ByteArray):Int:=match bk_ name 4 with
 | false=>1901
 | true=>match fJ_ is name==0 with
  | false=>fJ_ is name
  | true=>match bk_ path 3 with
   | false=>1907
   | true=>match leI (sz content) 6 with
    | false=>1909
    | true=>match dl_ is name with
     | none=>0
     | some i=>match i.files.any fun f=>decide (f.1=path) with
      | true=>0
      | false=>match leI 4 (i.files.length:Int) with
       | true=>1910
       | false=>0
def eV_ (is:List InfoR) (name to:ByteArray):Int:=match bk_ name 4&&bk_ to 4 with
 | false=>1901
 | true=>match fJ_ is name==0 with
  | false=>fJ_ is name
  | true=>match (dl_ is to).isSome with
   | true=>1902
   | false=>0
section
variable {H:Hp} {Q:Post}
theorem sR_ {b:Nat} {a:Pl} {is:List InfoR} {name path content:ByteArray} (h:cH_ H b a is) (ha:hB_ is) (hf:bA_ is is.length 0=true) (hn:is.length≤900)
 (hsz:∀ x∈is,x.name.size≤140737488351232∧x.files.length≤100000∧∀ f∈x.files,f.1.size≤140737488351232) (hs1:name.size≤140737488351232) (hs2:path.size≤140737488351232)
 (hQ:∀ H' a' n',H<+:H'→Q (.tup [.s (.sl a' n' 5),.s (.int .i64 (fR_ is name path content))]) H'):
 aZ_ [.g (.sl a is.length 5),.g (.str name),.g (.str path),.g (.str content)] H Q:=by
 refine⟨200010,?_⟩;rw[uE_];have etn:∀ k:Nat,tN (k:Int)=k:=fun _=>rfl;have hrd:=h.rd;have hfl:∀ i∈is,i.files.length≤100000:=fun i hi=>(hsz i hi).2.1;have h0:=hQ H none 0 (prefix_refl _);refine dU_ hrd ha (by omega) hsz ?_;simp only[aN_,ak_];rw[hf];refine aa_ (fun e=>by cases e) (fun _=> ?_);refine cb_ hs1 ?_;simp only[aN_,ak_];refine aa_ (fun e=>by rw[show fR_ is name path content=1901 by unfold fR_; rw[dY_ e]] at h0; exact h0) (fun e=> ?_);have w1:=eE_ e;refine kh_ hrd ha (by omega) (fun e he hA=> ?_) (fun hA hp hfi=> ?_)
 ·simp only[aI_,aB_,bB_,ai_,aT_];refine aa_ (fun _=> ?_) (fun q=>by exact absurd (by simpa using q) he);rw[show fR_ is name path content=e by unfold fR_; rw[w1,hA,show (e==0)=false by simpa using he]] at h0;exact h0
 ·simp only[aI_,aB_,bB_,ai_,aT_];refine aa_ (fun q=>by cases q) (fun _=> ?_);generalize hK:e1_ is name=K at hp hfi;refine ab_ rfl (ab_ (by simp<;>omega) ?_);obtain⟨l,o,p,e1,r1,r2,r3,r4,r5,r6⟩:=hrd _ hp;have hfk:=hfl _ (kE hp);have eW:fR_ is name path content=match bk_ path 3 with
   | false=>1907
   | true=>match leI (sz content) 6 with
    | false=>1909
    | true=>match is[K].files.any fun f=>decide (f.1=path) with
     | true=>0
     | false=>match leI 4 (is[K].files.length:Int) with
      | true=>1910
      | false=>0:=by unfold fR_; rw[w1,hA,hfi]; rfl
  have l29:fR_ is name path content=0→∀ (F:Nat) (G:Hp) (l a:Nat) (cs:List GV) (q:Pl) (m:Nat),H<+:G→H.length≤l→G[l]? =some (.row true 45 cs)→cs.length=is.length*5→aZ_.l29 (F+1) ((K:Nat):Int) (some (l,0)) is.length q m G Q:=fun e0 F G l a cs q m hG hl hr hc=>by
   rw[aZ_.l29_eq];refine ab_ rfl (ab_ (by simp<;>omega) ?_);simp only[af_,etn,kN];rw[qz_ hr (by omega)];have:=hQ (G.set l (.row true 45 (cs.set (K*5+4) (.sl q m 3)))) (some (l,0)) is.length (ej_ hG hl _);rw[e0] at this;exact this
  have l22:fR_ is name path content=0→∀ (G0:Hp) (a0:Pl),H<+:G0→cH_ G0 H.length a0 is→∀ (f j F:Nat) (G:Hp) (a':Pl) (n':Nat) (cs:List GV),f=is[K].files.length - j→j≤is[K].files.length→2*f+3≤F→G0<+:G→Own G G0.length 122 a' (n'*3) cs→n'≤j+1→
   aZ_.l22 F path ((K:Nat):Int) a0 is.length path content true a' n' ((j:Nat):Int) G Q:=by
   intro e0 G0 a0 p0 hi0 f;obtain⟨l,p,e1,hbl,r1,r2,r3,r4,r5,r6,r7,cs0,hr0,hc0⟩:=hi0.src K hp;induction f with
   | zero=>
    intro j F G a' n' cs hf' hj hF hG ho hn';obtain⟨F,rfl⟩:∃ G,F=G+1+1:=⟨F - 2,by omega⟩;rw[aZ_.l22_eq];refine ab_ rfl (ab_ (by simp<;>omega) ?_);rw[e1];have r5':gt G l (K*5+4)=some (.sl p is[K].files.length 3):=d7_ hG r5;simp only[af_,etn,kN];rw[ad_ r5',ah_];refine aa_ (fun e=>by simp at e<;>omega) (fun _=> ?_);refine ab_ rfl (ab_ (by simp<;>omega) ?_);rw[ad_ r5',ah_];have hrG:G[l]? =some (.row true 45 cs0):=by rw[br_ hG (kC.1 hr0).1]; exact hr0
    refine aa_ (fun _=> ?_) (fun _=>l29 e0 F G l 0 cs0 _ _ (p0.trans hG) hbl hrG hc0);refine ab_ rfl ?_;refine kb_ (H0:=G0) (by omega) hG ho (m:=1) rfl (by unfold Lim; omega) fun x' G' o' ex fr=> ?_;exact l29 e0 F G' l 0 cs0 _ _ (p0.trans ex.pre) hbl (by rw[br_ ex.pre (kC.1 hr0).1]; exact hr0) hc0
   | succ f ih=>
    intro j F G a' n' cs hf' hj hF hG ho hn';have hjl:j < is[K].files.length:=by omega
    obtain⟨F,rfl⟩:∃ G,F=G+1+1:=⟨F - 2,by omega⟩;rw[aZ_.l22_eq];refine ab_ rfl (ab_ (by simp<;>omega) ?_);rw[e1];have r5':gt G l (K*5+4)=some (.sl p is[K].files.length 3):=d7_ hG r5;simp only[af_,etn,kN];rw[ad_ r5',ah_];refine aa_ (fun _=> ?_) (fun e=>by simp at e<;>omega);have next:∀ (G:Hp) (a':Pl) (n':Nat) (cs:List GV),G0<+:G→Own G G0.length 122 a' (n'*3) cs→n'≤j+1→aZ_.l26 (F+1) path ((K:Nat):Int) (some (l,0)) is.length path content true a' n' ((j:Nat):Int) G Q:=by
     intro G a' n' cs hG ho hn';have r5':gt G l (K*5+4)=some (.sl p is[K].files.length 3):=d7_ hG r5;rw[aZ_.l26_eq];refine ab_ rfl (ab_ (by simp<;>omega) ?_);simp only[af_,etn,kN];rw[ad_ r5',ah_];refine ab_ rfl (ab_ (by simp<;>omega) ?_);obtain⟨l2,o2,e2,q1,q2,q3⟩:=(r6.rd.pre hG) _ hjl;rw[e2];simp only[af_,etn];rw[ad_ q1,ax_,ad_ q2,ax_,ad_ q3,ak_];refine ab_ rfl ?_;refine kb_ (H0:=G0) (by omega) hG ho (m:=1) rfl (by unfold Lim; omega) fun x' G' o' ex fr=> ?_;rw[an_ (by omega),←e1];exact ih (j+1) F G' x' _ _ (by omega) hjl (by omega) ex.pre o' (by omega)
    refine aa_ (fun e=> ?_) (fun _=>next G a' n' cs hG ho hn');have hnj:n'=j:=by simp at e; omega
    refine ab_ rfl (ab_ (by simp<;>omega) ?_);rw[ad_ r5',ah_];refine ab_ rfl (ab_ (by simp<;>omega) ?_);obtain⟨l2,o2,e2,q1,q2,q3⟩:=(r6.rd.pre hG) _ hjl;rw[e2];simp only[af_,etn,kQ];rw[ad_ q1,ax_];refine aa_ (fun _=> ?_) (fun _=>next G a' n' cs hG ho hn');refine ab_ rfl ?_;refine kb_ (H0:=G0) (by omega) hG ho (m:=1) rfl (by unfold Lim; omega) fun x' G' o' ex fr=> ?_;exact next G' x' _ _ ex.pre o' (by omega)
  rw[e1];simp only[af_,etn];have r5':gt H l (o+K*5+4)=some (.sl p is[K].files.length 3):=r5;rw[ad_ r5',ah_];have tail:∀ i27:Int,((∃ k:Nat,i27=((k:Nat):Int)∧∃ hk:k < is[K].files.length,is[K].files[k].1=path)∨(i27= -1∧∀ f∈is[K].files,f.1≠path))→
   cl cl_ [(.g (.str path))] H fun r28 H29=>
    rG r28 fun v30=>
    dB v30 fun b31=>
    b2_ (!b31)
    (Q (.tup [(.s (.sl none 0 5)),(.s (.int .i64 1907))]) H29)
    (b2_ (ltI 6 (sz content))
     (Q (.tup [(.s (.sl none 0 5)),(.s (.int .i64 1909))]) H29)
     (b2_ (ltI i27 0)
      (chk true (chk ((leI 0 ((K:Nat):Int))&&(ltI ((K:Nat):Int) (nI is.length))) (
       rd H29 l ((o+(K*5))+4) fun v34=>
       dL 3 v34 fun x35 n36=>
       b2_ (leI 4 (nI n36))
       (Q (.tup [(.s (.sl none 0 5)),(.s (.int .i64 1910))]) H29)
       (cl a9_ [(.g (.sl (some (l,o)) is.length 5))] H29 fun r37 H38=>
        rG r37 fun v39=>
        dL 5 v39 fun x40 n41=>
        b2_ (leI 0 i27)
        (chk true (chk ((leI 0 ((K:Nat):Int))&&(ltI ((K:Nat):Int) (nI n41))) (pS x40 fun n42 n43=>
         rd H38 n42 ((n43+(K*5))+4) fun v44=>
         dL 3 v44 fun x45 n46=>
         chk true (chk ((leI 0 i27)&&(ltI i27 (nI n46))) (pS x45 fun n47 n48=>
         wr H38 n47 (n48+((tN i27)*3)) (.str path) fun H49=>
         wr H49 n47 ((n48+((tN i27)*3))+1) (.str content) fun H50=>
         wr H50 n47 (((n48+((tN i27)*3))+1)+1) (.bool true) fun H51=>
         Q (.tup [(.s (.sl x40 n41 5)),(.s (.int .i64 0))]) H51)))))
        (aZ_.l22 200009 path ((K:Nat):Int) x40 n41 path content true none 0 0 H38 Q)))))
      (cl a9_ [(.g (.sl (some (l,o)) is.length 5))] H29 fun r52 H53=>
       rG r52 fun v54=>
       dL 5 v54 fun x55 n56=>
       b2_ (leI 0 i27)
       (chk true (chk ((leI 0 ((K:Nat):Int))&&(ltI ((K:Nat):Int) (nI n56))) (pS x55 fun n57 n58=>
        rd H53 n57 ((n58+(K*5))+4) fun v59=>
        dL 3 v59 fun x60 n61=>
        chk true (chk ((leI 0 i27)&&(ltI i27 (nI n61))) (pS x60 fun n62 n63=>
        wr H53 n62 (n63+((tN i27)*3)) (.str path) fun H64=>
        wr H64 n62 ((n63+((tN i27)*3))+1) (.str content) fun H65=>
        wr H65 n62 (((n63+((tN i27)*3))+1)+1) (.bool true) fun H66=>
        Q (.tup [(.s (.sl x55 n56 5)),(.s (.int .i64 0))]) H66)))))
       (aZ_.l22 200009 path ((K:Nat):Int) x55 n56 path content true none 0 0 H53 Q)))):=by
   intro i27 hi27;refine fD_ hs2 ?_;simp only[aN_,ak_];refine aa_ (fun e=>by rw[eW,dY_ e] at h0; exact h0) (fun e=> ?_);rw[eE_ e] at eW;dsimp only at eW;refine aa_ (fun e=>by rw[eW,show leI (sz content) 6=false by simp at e ⊢; omega] at h0; exact h0) (fun e=> ?_);rw[show leI (sz content) 6=true by simp at e ⊢; omega] at eW;dsimp only at eW;rcases hi27 with⟨k,rfl,hk,hkp⟩ | ⟨rfl,hno⟩
   ·refine aa_ (fun e=>by simp at e<;>omega) (fun _=> ?_);have e0:fR_ is name path content=0:=by
     rw[eW,show (is[K].files.any fun f=>decide (f.1=path))=true from any_eq_true.2 ⟨_,kE hk,by simpa using hkp⟩]
    rw[←e1];refine fT_ h hn hfl fun G a0 pG hi0=> ?_;simp only[aN_,ah_];refine aa_ (fun _=> ?_) (fun e=>by simp at e<;>omega);refine ab_ rfl (ab_ (by simp<;>omega) ?_);obtain⟨l9,p9,e9,hbl,_,_,_,_,q5,q6,q7,_⟩:=hi0.src K hp;rw[e9];have q5':gt G l9 (K*5+4)=some (.sl p9 is[K].files.length 3):=q5;simp only[af_,etn,kN];rw[ad_ q5',ah_];refine ab_ rfl (ab_ (by simp<;>omega) ?_);rcases q6 with⟨_,z⟩ | ⟨lf,rfl,hrf⟩
    ·rw[z] at hk; cases hk
    ·obtain⟨hbf,_⟩:=q7 lf 0 rfl;simp only[af_,etn,kN];have hcl:=gU_ is[K].files;have hlt:=(kC.1 hrf).1;rw[qz_ hrf (by omega)];rw[qz_ (kH hlt) (by rw[length_set]; omega),set_set];rw[qz_ (kH hlt) (by rw[length_set,length_set]; omega),set_set];have:=hQ (G.set lf (.row true 122 ((((ci_ is[K].files).set (k*3) (.str path)).set (k*3+1) (.str content)).set (k*3+1+1) (.bool true)))) (some (l9,0)) is.length (ej_ pG hbf _);rw[e0] at this;exact this
   ·refine aa_ (fun _=> ?_) (fun e=>by simp at e);rw[show (is[K].files.any fun f=>decide (f.1=path))=false by rw[any_eq_false]; intro f hf; simpa using hno f hf] at eW;dsimp only at eW;refine ab_ rfl (ab_ (by simp<;>omega) ?_);rw[ad_ r5',ah_];refine aa_ (fun e=>by rw[eW,show leI 4 (is[K].files.length:Int)=true from e] at h0; exact h0) (fun e=> ?_);rw[show leI 4 (is[K].files.length:Int)=false from e] at eW;rw[←e1];refine fT_ h hn hfl fun G a0 pG hi0=> ?_;simp only[aN_,ah_];refine aa_ (fun e=>by simp at e) (fun _=> ?_);exact l22 eW G a0 pG hi0 _ 0 200009 G none 0 [] rfl (kP _) (by omega) (prefix_refl _) (.inl ⟨rfl,rfl,rfl⟩) (by omega)
  refine qB_ r6 hfk (fun k hk e=> ?_) (fun hno=> ?_)
  ·simp only[aN_,ai_];exact tail _ (.inl ⟨k,rfl,hk,e⟩)
  ·simp only[aN_,ai_];exact tail _ (.inr ⟨rfl,hno⟩)
theorem qD_ (h:cH_ H b a is) (N:hB_ is) (hf:bA_ is is.length 0=true) (Y:is.length≤900)
 (I:∀ x∈is,x.name.size≤140737488351232∧x.files.length≤100000∧∀ f∈x.files,f.1.size≤140737488351232) (Z:name.size≤140737488351232) (V:to.size≤140737488351232)
 (hQ:∀ H' a' n',H<+:H'→Q (.tup [.s (.sl a' n' 5),.s (.int .i64 (eV_ is name to))]) H'):
 fQ_ [.g (.sl a is.length 5),.g (.str name),.g (.str to)] H Q:=by
 refine⟨1,?_⟩;rw[t6_];have U:∀ k:Nat,tN (k:Int)=k:=fun _=>rfl;have hrd:=h.rd;have W:∀ i∈is,i.files.length≤100000:=fun i hi=>(I i hi).2.1;have F:=hQ H none 0 (prefix_refl _);refine dU_ hrd N (by omega) I ?_;rw[hf];refine cb_ Z ?_;refine aa_ (fun e=>by rw[show eV_ is name to=1901 by unfold eV_; rw[dY_ e,Bool.false_and]] at F; exact F) (fun e=> ?_);have w1:=eE_ e;refine cb_ V ?_;refine aa_ (fun e=>by rw[show eV_ is name to=1901 by unfold eV_; rw[dY_ e,Bool.and_false]] at F; exact F) (fun e=> ?_);have w2:=eE_ e;refine kh_ hrd N (by omega) (fun e he hA=> ?_) (fun hA hp hfi=> ?_)
 ·simp only[aI_,aB_,bB_,ai_];refine aa_ (fun _=> ?_) (fun q=>by exact absurd (by simpa using q) he);rw[show eV_ is name to=e by unfold eV_; rw[w1,w2,hA,show (e==0)=false by simpa using he]; rfl] at F;exact F
 ·simp only[aI_,aB_,bB_,ai_];have eC:eV_ is name to=match (dl_ is to).isSome with | true=>1902 | false=>0:=by unfold eV_; rw[w1,w2,hA]; rfl
  refine fH_ hrd N (by omega) (fun D=> ?_) (fun D=> ?_)
  ·simp only[aN_,ai_];refine aa_ (fun _=> ?_) (fun e=>by simp at e<;>omega);rw[(jX_ N).1] at D;grind
  ·simp only[aN_,ai_];rw[k8_ N D] at eC;dsimp [Option.isSome_none] at eC;refine fT_ h Y W fun G a0 pG J=> ?_;simp only[aN_,ah_];refine ab_ rfl (ab_ (by simp<;>omega) ?_);obtain⟨l,o,p,e1,r1,r2,r3,r4,r5,r6⟩:=J.rd _ hp;rw[e1];simp [af_,U];rw[ad_ r1,ax_,ad_ r2,ai_,ad_ r3,ax_,ad_ r4,ax_,ad_ r5,ah_,←e1];refine j2_ J.rd Y fun G1 a1 pG1 O=> ?_;simp [ah_];refine mq_ O (Nat.le_trans (length_eraseIdx_le _ _) Y) fun G2 a2 n2 pG2=> ?_;simp [aN_];grind
end
end Go.Am
end
namespace Go.Am
open List
inductive fi_ (is:List InfoR):ByteArray→Prop
 | nil:fi_ is (mkS [])
 | step {y:InfoR}:y∈is→y.kind=2→fi_ is y.parent→fi_ is y.name
theorem fi_.mono (h:∀ y∈is,y.kind=2→∃ z∈js,z.name=y.name∧z.kind=2∧z.parent=y.parent) (r:fi_ is p):fi_ js p:=by
 induction r with
 | nil=>exact .nil
 | @step y I A _ N=>
  have ⟨z,D,F,G,J⟩:=h y I A;rw[←F];exact .step D G (by grind)
theorem wG_ (D:hB_ is):∀ (f:Nat) (p:ByteArray),i0_ is f p=true→fi_ is p
 | 0,p,h=>by
  rw[i0_] at h;have:p=mkS []:=by grind
  rw[this]; exact .nil
 | f+1,p,h=>by
  rw[i0_] at h;by_cases e:p=mkS []
  ·rw[e]; exact .nil
  ·rw[if_neg e,kR] at h;have ⟨F,r⟩:=wv_ D h.1;have A:=h.2;rw[kG F] at A;rw[kR] at A;rw[←r];exact .step (kE F) (by simp_all) (wG_ D f _ A.2)
theorem Bs_ (D:hB_ is) (r:fi_ is p):∃ f,i0_ is f p=true:=by
 induction r with
 | nil=>exact⟨0,by rw[i0_]; simp⟩
 | @step y G J _ F=>
  have ⟨f,I⟩:=F;refine⟨f+1,?_⟩;rw[i0_];by_cases e:y.name=mkS []
  ·grind
  ·rw[if_neg e,kR];obtain⟨k,A,rfl⟩:=kK G;have N:=zc_ D A;refine⟨any_eq_true.2 ⟨_,kE A,by simp⟩,?_⟩;simp_all
structure IQ_ (is:List InfoR):Prop where
 ok:∀ i∈is,cX_ i=true
 root:∀ i∈is,fi_ is i.parent
 few:is.length≤6
theorem vm_ (D:hB_ is):∀ (f k:Nat),f=is.length - k→k≤is.length→(∀ i∈is,cX_ i=true)→gF_ is is.length 0=true→bA_ is f k=true
 | 0,k,F,G,_,h=>h
 | f+1,k,F,G,A,h=>by
  have r:k < is.length:=by omega
  rw[bA_,kG r];dsimp;rw[A _ (kE r),vm_ D f (k+1) (by omega) r A h,Bool.true_and,Bool.and_true];cases k with
  | zero=>rfl
  | succ j=>
   dsimp;rw[kG (show j < is.length by omega)];exact (pairwise_iff_getElem.1 D) _ _ (by omega) r (Nat.lt_succ_self _)
theorem Ai_ (A:hB_ is):bA_ is is.length 0=true↔IQ_ is:=by
 constructor
 ·intro h;have ⟨N,I⟩:=(jo_ _ 0 rfl (kP _)).1 (km_ _ _ h);have O:is.length≤6:=by simp at I; omega
  refine⟨wc_ h,fun i J=> ?_,O⟩;obtain⟨k,F,rfl⟩:=kK J;have:=pj_ (show is.length≤7+1 by omega) (N k (kP _) F);rw[oh_ 7 k F] at this;exact wG_ A 7 _ this
 ·refine fun h=>vm_ A _ 0 rfl (kP _) h.ok ((jo_ _ 0 rfl (kP _)).2 ⟨fun j _ G=> ?_,by simp; have:=h.few; omega⟩);have ⟨f,D⟩:=Bs_ A (h.root _ (kE G));rw[←oh_ f j G] at D;exact wA_ _ _ D
theorem ws_ {cl:Bool} (D:ov_ fs) (A:∀ f∈fs,ei_ cl f=true) (G:fs.length≤4):∀ (f k:Nat),f=fs.length - k→k≤fs.length→cu_ cl fs f k=true
 | 0,k,F,I=>by rw[cu_]; simp; omega
 | f+1,k,F,I=>by
  have r:k < fs.length:=by omega
  rw[cu_,kG r];dsimp;rw[A _ (kE r),ws_ D A G f (k+1) (by omega) r,Bool.true_and,Bool.and_true];cases k with
  | zero=>rfl
  | succ j=>
   dsimp;rw[kG (show j < fs.length by omega)];exact (pairwise_iff_getElem.1 D) _ _ (by omega) r (Nat.lt_succ_self _)
theorem vR_ {cl:Bool}:∀ (f k:Nat),f=fs.length - k→cu_ cl fs f k=true→∀ j (A:j < fs.length),k≤j→ei_ cl fs[j]=true
 | 0,k,D,h=>fun j A r=>by omega
 | f+1,k,D,h=>fun j A r=>by
  have F:k < fs.length:=by omega
  rw[cu_,kG F] at h;simp at h;rcases Nat.lt_or_eq_of_le r with q | q
  ·exact vR_ f (k+1) (by omega) h.2.2 j A q
  ·grind
theorem gr_ (I:ov_ i.files):cX_ i=true↔bk_ i.name 4=true∧(0≤i.kind∧i.kind≤2)∧i.label.size≤3∧(∀ f∈i.files,ei_ (eqI i.kind 1) f=true)∧i.files.length≤4:=by
 unfold cX_;simp only[kR];constructor
 ·rintro⟨D,⟨A,J⟩,F,r⟩;refine⟨D,⟨by simpa using A,by simp_all⟩,by simp at F; omega,fun f G=> ?_,by have:=rT_ _ _ r; simp at this; omega⟩;obtain⟨j,N,rfl⟩:=kK G;exact vR_ _ 0 rfl r j N (kP _)
 ·rintro⟨D,⟨A,J⟩,F,r,O⟩;exact⟨D,⟨by simpa using A,by simp_all⟩,by simp; omega,ws_ I r O _ 0 rfl (kP _)⟩
structure em_ (st:StD):Prop where
 sto:Sto st
 ids:(st.snaps.map fun x=>x.2.id).Nodup
 few:st.snaps.length≤6
 info:∀ x∈st.snaps,∀ fs,cF_ st x.2.id fs→cX_ ⟨x.1,x.2.kind,x.2.parent,x.2.label,fs⟩=true
 root:∀ is,cG_ st is→∀ i∈is,fi_ is i.parent
theorem cG_.asc' (h:cG_ st is):hB_ is:=by
 have:=h.asc;rw[pairwise_map] at this;exact this
theorem cG_.get (h:cG_ st is) (hi:i∈is):∃ x∈st.snaps,i=⟨x.1,x.2.kind,x.2.parent,x.2.label,i.files⟩∧cF_ st x.2.id i.files:=by
 have ⟨x,A,D,F,G,r⟩:=(h.info i hi).mem;refine⟨(i.name,x),dr_ A,?_,r⟩;cases i;grind
theorem cG_.put (A:(st.snaps.map (·.1)).Nodup) (h:cG_ st is) (r:x∈st.snaps):∃ i∈is,i=⟨x.1,x.2.kind,x.2.parent,x.2.label,i.files⟩∧cF_ st x.2.id i.files:=by
 have:=h.perm.mem_iff.2 (mem_map.2 ⟨x,r,rfl⟩);have ⟨i,F,e⟩:=mem_map.1 this;have ⟨y,D,G,J,N,I⟩:=(h.info i F).mem;rw[e,fP_ A r] at D;cases i;grind
theorem em_.forest (g:em_ st) (h:cG_ st is):bA_ is is.length 0=true:=by
 refine (Ai_ h.asc').2 ⟨fun i D=> ?_,g.root is h,?_⟩
 ·have ⟨x,A,e,r⟩:=h.get D;rw[e]; exact g.info x A _ r
 ·have:=h.perm.length_eq;rw[length_map,length_map] at this;have:=g.few; omega
theorem Sto.of (F:Asc ps) (h:el_ ps=some st) (D:dn_ st=true):Sto st:=by
 have A:=hV_ F h;refine⟨of_ h,⟨th_ A,?_,?_⟩,D⟩
 ·unfold Nodup;rw[pairwise_map];exact A.links.imp fun r=>r.1
 ·unfold Nodup;rw[pairwise_map];exact A.inos.imp fun r e=>by omega
theorem Dj_ (h:i8_ st=true):dn_ st=true∧(st.snaps.map fun x=>x.2.id).Nodup∧bA_ (aA_ st) (aA_ st).length 0=true:=by
 unfold i8_ at h;grind
theorem em_.of (J:Asc ps) (h:cP_ ps=some st):em_ st:=by
 have ⟨N,O⟩:=kw_.1 h;have ⟨U,Y,Z⟩:=Dj_ O;have hs:=hV_ J N;have r:=h6_ hs;have F:=(Ai_ r.asc').1 Z;have A:=Sto.of J N U;refine⟨A,Y,?_,fun x V fs W=> ?_,fun is G i I=> ?_⟩
 ·have:=F.few;unfold aA_ at this;grind
 ·have ⟨i,I,e,D⟩:=r.put A.nd.snaps V;have:=F.ok i I;rw[e,D.unique W] at this;grind
 ·have:=G.unique r;subst this;exact F.root i I
theorem cF_.nodup {id:Int} (h:cF_ st id fs):fs.Nodup:=h.asc.imp fun r e=>by rw[e,cA_] at r; cases r
theorem zO_ (h:Sto st) {id:Int} (A:cF_ st id fs):fs.length=st.links.countP fun l=>decide (l.1.1=id):=by
 have e:(st.links.filter fun l=>decide (l.1.1=id)).map (·.1.2) |>.Nodup:=by
  have:((st.links.filter fun l=>decide (l.1.1=id)).map (·.1)).Nodup:=kf_ h.nd.links _;grind
 have O:(fs.map (·.1)).Nodup:=by
  unfold Nodup;rw[pairwise_map];exact A.asc.imp fun r q=>by rw[q,cA_] at r; cases r
 have N:∀ s,s∈fs.map (·.1)↔s∈(st.links.filter fun l=>decide (l.1.1=id)).map (·.1.2):=fun s=>by
  rw[mem_map,mem_map];constructor
  ·rintro⟨f,G,e⟩;have ⟨l,D,I,F⟩:=(A.mem f).1 G;exact⟨l,mem_filter.2 ⟨D,by grind⟩,by rw[←e,F]; rfl⟩
  ·rintro⟨l,D,e⟩;have ⟨I,F⟩:=mem_filter.1 D;exact⟨bq_ st l,(A.mem _).2 ⟨l,I,by grind,rfl⟩,e⟩
 have I:=(dP_ _ _ O fun s J=>(N s).1 J).1;have F:=(dP_ _ _ e fun s J=>(N s).2 J).1;grind
theorem Ah_ (h:Sto st) (id:Int):∃ fs,cF_ st id fs:=by
 have key:∀ r:List (LKey × LVal),(∀ l∈r,l.1.1=id)→(r.map (·.1)).Nodup→∃ fs,ov_ fs∧∀ f,f∈fs↔∃ l∈r,f=bq_ st l:=by
  intro r;induction r with
  | nil=>exact fun _ _=>⟨[],Pairwise.nil,fun f=>by simp⟩
  | cons l r U=>
   intro O G;rw[map_cons,nodup_cons] at G;have ⟨fs,F,I⟩:=U (fun l N=>O l (by grind)) G.2;have A:∀ x∈fs,x.1≠(bq_ st l).1:=fun x V e=>by
    obtain⟨W,D,rfl⟩:=(I x).1 V;apply G.1;refine mem_map.2 ⟨W,D,Prod.ext ?_ e⟩;grind
   refine⟨_,F.put (bq_ st l) A,fun f=> ?_⟩;have Y:f∈fs↔f∈fs.take (he_ fs (bq_ st l).1)∨f∈fs.drop (he_ fs (bq_ st l).1):=by
    rw[←kD,take_append_drop]
   grind
 have ⟨fs,F,I⟩:=key (st.links.filter fun l=>decide (l.1.1=id)) (fun l N=>by grind) (kf_ h.nd.links _);refine⟨fs,F,fun f=> ?_⟩;grind
end Go.Am
namespace Go.Am
open List
theorem nD_:∀ {es ps:KV},Asc ps→((ps++es).map (·.1)).Nodup→(eI_ ps es).Perm (ps++es)∧Asc (eI_ ps es)
 | [],ps,A,_=>by rw[append_nil]; exact⟨Perm.refl _,A⟩
 | e::es,ps,A,N=>by
  have F:∀ x∈ps,x.1≠e.1:=fun x Y q=>by
   grind
  have ⟨L,M,R,e1,W,V,_,_⟩:=ju_ e.1 e.2 A;have U:M=[]:=by
   rcases V with q | ⟨G,q⟩
   ·exact q
   ·exact absurd rfl (F (e.1,G) (by grind))
  have J:(gu_ ps e.1 e.2).Perm (ps++[e]):=by
   have:=Perm.append_left L (perm_append_comm (l₁:=[e]) (l₂:=R));grind
  have r:(gu_ ps e.1 e.2++es).Perm (ps++e::es):=by
   have:=Perm.append_right es J;grind
  have D:=(Perm.map _ r).nodup_iff.2 N;have ⟨I,O⟩:=nD_ (z4_ A e.1 e.2) D;exact⟨I.trans r,O⟩
theorem Ir_ (A:bk_ x.1 4=true) (D:fk_ x.2=true):snE (iB_ x)=some x∧lnE (iB_ x)=none∧inE (iB_ x)=none:=by
 have e:=gY_ A;have ⟨F,r⟩:=jC_ e;refine⟨?_,?_,?_⟩
 ·unfold snE iB_; rw[e,zA_ D]; rfl
 ·unfold lnE iB_; rw[F]
 ·unfold inE iB_; rw[r]
theorem Iy_ (F:1≤x.1.1) (I:x.1.1≤255) (G:bk_ x.1.2 3=true) (A:0≤x.2.1) (r:x.2.1≤255):snE (kV_ x)=none∧lnE (kV_ x)=some x∧inE (kV_ x)=none:=by
 have e:=h7_ F I G;have ⟨J,D⟩:=jL_ e;refine⟨?_,?_,?_⟩
 ·unfold snE kV_; rw[J]
 ·unfold lnE kV_; rw[e,BU_ A r]; rfl
 ·unfold inE kV_; rw[D]
theorem H6_ (A:1≤x.1) (F:x.1≤255) (D:ec_ x.2=true):snE (rC_ x)=none∧lnE (rC_ x)=none∧inE (rC_ x)=some x:=by
 have e:=lt_ A F;have ⟨G,r⟩:=sP_ e;refine⟨?_,?_,?_⟩
 ·unfold snE rC_; rw[G]
 ·unfold lnE rC_; rw[r]
 ·unfold inE rC_; rw[e,B9_ D]; rfl
theorem uy_ {α β γ:Type} {f:α→β} {g:β→Option α}:∀ {l:List α},(∀ x∈l,g (f x)=some x)→(l.map f).filterMap g=l
 | [],_=>rfl
 | x::l,h=>by rw[map_cons,filterMap_cons,h x (by simp)]; rw[uy_ (γ:=γ) fun y r=>h y (by grind)]
theorem og_ {α β γ:Type} {f:α→β} {g:β→Option γ}:∀ {l:List α},(∀ x∈l,g (f x)=none)→(l.map f).filterMap g=[]
 | [],_=>rfl
 | x::l,h=>by simp_all
theorem HQ_ (ok:y9_ st):(kK_ st).filterMap snE=st.snaps∧(kK_ st).filterMap lnE=st.links∧(kK_ st).filterMap inE=st.inos∧(kK_ st).all okE=true:=by
 have F:=fun x r=>Ir_ (ok.snaps x r).1 (ok.snaps x r).2;have A:=fun x r=>Iy_ (ok.links x r).1.1 (ok.links x r).1.2 (ok.links x r).2.1 (ok.links x r).2.2.1 (ok.links x r).2.2.2;have D:=fun x r=>H6_ (ok.inos x r).1.1 (ok.inos x r).1.2 (ok.inos x r).2;unfold kK_;refine⟨?_,?_,?_,?_⟩
 ·rw[filterMap_append,filterMap_append,uy_ (γ:=Nat) fun x r=>(F x r).1,og_ fun x r=>(A x r).1,og_ fun x r=>(D x r).1]; simp
 ·rw[filterMap_append,filterMap_append,og_ fun x r=>(F x r).2.1,uy_ (γ:=Nat) fun x r=>(A x r).2.1,og_ fun x r=>(D x r).2.1]; simp
 ·rw[filterMap_append,filterMap_append,og_ fun x r=>(F x r).2.2,og_ fun x r=>(A x r).2.2,uy_ (γ:=Nat) fun x r=>(D x r).2.2]; simp
 ·rw[all_eq_true];unfold okE;grind
theorem x2_ (ok:y9_ st) (nd:wM_ st):((kK_ st).map (·.1)).Nodup:=by
 unfold kK_;rw[kL,kL,map_map,map_map,map_map];have D:∀ {α β:Type} {l:List (α × β)} {f:α→ByteArray} {g:ByteArray→Option α},(∀ x∈l,g (f x.1)=some x.1)→(l.map (·.1)).Nodup→(l.map (fun x=>f x.1)).Nodup:=fun {α β l f g} h V=>by
  unfold Nodup at V ⊢;rw[pairwise_map] at V ⊢;refine V.imp_of_mem fun {a b} I J O e=>O ?_;grind
 have N:=fun x r=>gY_ (ok.snaps x r).1;have U:=fun x r=>h7_ (ok.links x r).1.1 (ok.links x r).1.2 (ok.links x r).2.1;have W:=fun x r=>lt_ (ok.inos x r).1.1 (ok.inos x r).1.2;rw[nodup_append,nodup_append];refine⟨D N nd.snaps,⟨D U nd.links,D W nd.inos,fun a I b J e=> ?_⟩,fun a I b J e=> ?_⟩
 ·obtain⟨x,r,rfl⟩:=mem_map.1 I;obtain⟨y,G,rfl⟩:=mem_map.1 J;have F:mr_ x.1=qu_ y.1:=e;have A:=U x r;rw[F,(sP_ (W y G)).2] at A; cases A
 ·obtain⟨x,r,rfl⟩:=mem_map.1 I;rcases kD.1 J with q | q
  ·obtain⟨y,G,rfl⟩:=mem_map.1 q;have F:pX_ x.1=mr_ y.1:=e;have A:=N x r;rw[F,(jL_ (U y G)).1] at A; cases A
  ·obtain⟨y,G,rfl⟩:=mem_map.1 q;have F:pX_ x.1=qu_ y.1:=e;have A:=N x r;rw[F,(sP_ (W y G)).1] at A; cases A
structure fU_ (st st':StD):Prop where
 snaps:st'.snaps.Perm st.snaps
 links:st'.links.Perm st.links
 inos:st'.inos.Perm st.inos
theorem As_ (ok:y9_ st) (nd:wM_ st):∃ r,el_ (cc_ st)=some r∧fU_ st r∧Asc (cc_ st):=by
 obtain⟨A,I⟩:=nD_ Pairwise.nil (by simpa using x2_ ok nd);rw[nil_append] at A;have ⟨N,G,J,F⟩:=HQ_ ok;refine⟨⟨(cc_ st).filterMap snE,(cc_ st).filterMap lnE,(cc_ st).filterMap inE⟩,?_,⟨?_,?_,?_⟩,I⟩
 ·rw[pN_,if_pos];rw[all_eq_true] at F ⊢;exact fun p D=>F p (A.mem_iff.1 D)
 ·have:=A.filterMap snE; rw[N] at this; exact this
 ·have:=A.filterMap lnE; rw[G] at this; exact this
 ·have:=A.filterMap inE; rw[J] at this; exact this
theorem fU_.cnt (h:fU_ st st') (i:Int):eX_ st' i=eX_ st i:=h.links.countP_eq _
theorem fU_.linked (h:fU_ st st') (r:dn_ st=true):dn_ st'=true:=by
 have ⟨A,F⟩:=cJ_.1 r;refine cJ_.2 ⟨fun l r=> ?_,fun x D=> ?_⟩
 ·have ⟨y,G⟩:=A l (h.links.mem_iff.1 r);exact⟨y,h.inos.mem_iff.2 G⟩
 ·rw[h.cnt]; exact F x (h.inos.mem_iff.1 D)
theorem fU_.nd (h:fU_ st st') (nd:wM_ st):wM_ st':=⟨(h.snaps.map _).nodup_iff.2 nd.snaps,(h.links.map _).nodup_iff.2 nd.links,(h.inos.map _).nodup_iff.2 nd.inos⟩
theorem fU_.file (h:fU_ st st') (nd:wM_ st) (l:LKey × LVal):bq_ st' l=bq_ st l:=by
 unfold bq_;have:look st'.inos l.2.1=look st.inos l.2.1:=by
  cases e:look st.inos l.2.1 with
  | some y=>exact (dp_ (h.nd nd).inos).2 (h.inos.mem_iff.2 ((dp_ nd.inos).1 e))
  | none=>
   cases r:look st'.inos l.2.1 with
   | none=>rfl
   | some y=>
    have:=(dp_ nd.inos).2 (h.inos.mem_iff.1 ((dp_ (h.nd nd).inos).1 r));grind
 grind
theorem fU_.files (h:fU_ st st') (nd:wM_ st) {id:Int}:cF_ st' id fs↔cF_ st id fs:=by
 have key:∀ f,(∃ l∈st'.links,l.1.1=id∧f=bq_ st' l)↔∃ l∈st.links,l.1.1=id∧f=bq_ st l:=fun f=>by
  constructor
  ·rintro⟨l,r,D,A⟩; exact⟨l,h.links.mem_iff.1 r,D,by rw[A,h.file nd]⟩
  ·rintro⟨l,r,D,A⟩; exact⟨l,h.links.mem_iff.2 r,D,by rw[A,h.file nd]⟩
 exact⟨fun g=>⟨g.asc,fun f=>(g.mem f).trans (key f)⟩,fun g=>⟨g.asc,fun f=>(g.mem f).trans (key f).symm⟩⟩
theorem fU_.look (h:fU_ st st') (nd:wM_ st) (s:ByteArray):look st'.snaps s=look st.snaps s:=by
 cases e:Go.Am.look st.snaps s with
 | some y=>exact (dp_ (h.nd nd).snaps).2 (h.snaps.mem_iff.2 ((dp_ nd.snaps).1 e))
 | none=>
  cases r:Go.Am.look st'.snaps s with
  | none=>rfl
  | some y=>
   have:=(dp_ nd.snaps).2 (h.snaps.mem_iff.1 ((dp_ (h.nd nd).snaps).1 r));grind
theorem fU_.infos (h:fU_ st st') (nd:wM_ st):cG_ st' is↔cG_ st is:=by
 have J:=h.snaps.map (·.1);have key:∀ i,st_ st' i↔st_ st i:=fun i=>by
  constructor
  ·rintro⟨x,D,G,F,A,r⟩;exact⟨x,by rw[←h.look nd]; exact D,G,F,A,(h.files nd).1 r⟩
  ·rintro⟨x,D,G,F,A,r⟩;exact⟨x,by rw[h.look nd]; exact D,G,F,A,(h.files nd).2 r⟩
 exact⟨fun g=>⟨g.perm.trans J,g.asc,fun i I=>(key i).1 (g.info i I)⟩,fun g=>⟨g.perm.trans J.symm,g.asc,fun i I=>(key i).2 (g.info i I)⟩⟩
theorem lb_ (g:em_ st):∃ r,cP_ (cc_ st)=some r∧fU_ st r∧cG_ st (aA_ r)∧Asc (cc_ st):=by
 have ⟨r,I,D,G⟩:=As_ g.sto.ok g.sto.nd;have F:=h6_ (hV_ G I);have A:=(D.infos g.sto.nd).1 F;refine⟨r,kw_.2 ⟨I,?_⟩,D,A,G⟩;unfold i8_;rw[D.linked g.sto.lk,g.forest A,decide_eq_true ((D.snaps.map _).nodup_iff.2 g.ids)];rfl
theorem hI_.files (g:hI_ st st') (F:x∈st.snaps):cF_ st' x.2.id fs↔cF_ st x.2.id fs:=by
 have key:∀ f,(∃ l∈st'.links,l.1.1=x.2.id∧f=bq_ st' l)↔∃ l∈st.links,l.1.1=x.2.id∧f=bq_ st l:=fun f=>by
  constructor
  ·rintro⟨l,r,A,D⟩; exact⟨l,g.sub l r,A,by rw[D,g.file l r]⟩
  ·rintro⟨l,r,A,D⟩;have:=g.all l r ⟨x,F,A.symm⟩;exact⟨l,this,A,by rw[D,g.file l this]⟩
 exact⟨fun h=>⟨h.asc,fun f=>(h.mem f).trans (key f)⟩,fun h=>⟨h.asc,fun f=>(h.mem f).trans (key f).symm⟩⟩
theorem hI_.infos (g:hI_ st st'):cG_ st' is↔cG_ st is:=by
 have key:∀ i,st_ st' i↔st_ st i:=fun i=>by
  constructor
  ·rintro⟨x,r,G,F,D,A⟩;rw[g.snaps] at r;exact⟨x,r,G,F,D,(g.files (dr_ r)).1 A⟩
  ·rintro⟨x,r,G,F,D,A⟩;exact⟨x,by rw[g.snaps]; exact r,G,F,D,(g.files (dr_ r)).2 A⟩
 exact⟨fun h=>⟨by rw[←g.snaps]; exact h.perm,h.asc,fun i I=>(key i).1 (h.info i I)⟩,fun h=>⟨by rw[g.snaps]; exact h.perm,h.asc,fun i I=>(key i).2 (h.info i I)⟩⟩
theorem hI_.good (g:hI_ st st') (h:em_ st):em_ st':=by
 refine⟨g.sto,by rw[g.snaps]; exact h.ids,by rw[g.snaps]; exact h.few,fun x A D F=> ?_,fun is r=>h.root is (g.infos.1 r)⟩;rw[g.snaps] at A;exact h.info x A D ((g.files A).1 F)
theorem D5_ (h:em_ st) (Y:bu_ st=none):dM_ st≤54:=by
 have O:=h.few;have key:∀ (A:List (ByteArray × SnapR)) (r:List (LKey × LVal)),(∀ l∈r,∃ x∈A,x.2.id=l.1.1)→(∀ x∈A,(r.countP fun l=>decide (l.1.1=x.2.id))≤4)→r.length≤4*A.length:=by
  intro A;induction A with
  | nil=>
   intro r F _;cases r with
   | nil=>simp
   | cons l r=>obtain⟨x,D,_⟩:=F l (by simp); cases D
  | cons x A Z=>
   intro r F U;have h3:=Z (r.filter fun l=> !decide (l.1.1=x.2.id)) (fun l G=>by
    obtain⟨q1,q2⟩:=mem_filter.1 G;obtain⟨y,N,e⟩:=F l q1;rcases mem_cons.1 N with z | z
    ·grind
    ·exact⟨y,z,e⟩) (fun y N=>Nat.le_trans (Sublist.countP_le filter_sublist) (U y (by simp [N])))
   have h4:=U x (by simp);have h5:r.length=(r.countP fun l=>decide (l.1.1=x.2.id))+(r.filter fun l=> !decide (l.1.1=x.2.id)).length:=by
    rw[←countP_eq_length_filter];have:=length_eq_countP_add_countP (fun l:LKey × LVal=>decide (l.1.1=x.2.id)) (l:=r);rw[this];congr 1;apply countP_congr;grind
   grind
 have G:st.links.length≤4*st.snaps.length:=by
  refine key st.snaps st.links (e2_ Y) fun x D=> ?_;obtain⟨V,J⟩:=Ah_ h.sto x.2.id;rw[←zO_ h.sto J];exact ((gr_ (i:=⟨x.1,x.2.kind,x.2.parent,x.2.label,V⟩) J.asc).1 (h.info x D V J)).2.2.2.2
 have W:st.inos.length≤st.links.length:=by
  have:=(dP_ (st.links.map (·.2.1)) (st.inos.map (·.1)) h.sto.nd.inos fun i W=>by
   obtain⟨x,D,rfl⟩:=mem_map.1 W;have hc:=(cJ_.1 h.sto.lk).2 x D;have I:=(h.sto.ok.inos x D).2;unfold ec_ at I;simp at I;have F:1≤x.2.links:=I.1.1;have:0 < eX_ st x.1:=by omega
   have ⟨l,G,e⟩:=countP_pos_iff.1 this;exact mem_map.2 ⟨l,G,by grind⟩).1
  grind
 unfold dM_; omega
theorem jm_ (h:em_ st):hI_ st (e0_ st)∧em_ (e0_ st)∧dM_ (e0_ st)≤60:=by
 have ⟨A,F⟩:=BR_ h.sto;have D:=A.good h;refine⟨A,D,?_⟩;by_cases r:60 < dM_ st
 ·have:=D5_ D (F r); omega
 ·have:e0_ st=st:=by unfold e0_; rw[decide_eq_false r]
  grind
theorem sk_ (h:em_ st):∃ r,cP_ (cc_ (e0_ st))=some r∧cG_ st (aA_ r)∧r.snaps.Perm st.snaps∧Asc (cc_ (e0_ st)):=by
 have ⟨A,I,_⟩:=jm_ h;have ⟨r,G,D,F,J⟩:=lb_ I;exact⟨r,G,A.infos.1 F,by have:=D.snaps; rw[A.snaps] at this; exact this,J⟩
end Go.Am
section
namespace Go.Am
open List
section
variable {H:Hp} {Q:Post}
theorem wJ_ (h:bk_ n 4=true) (r:∀ H',H<+:H'→Q (.tup [.s (.str (pX_ n)),.s (.int .i64 0)]) H'):jE_ [.g (.str n)] H Q:=by
 have D:=do_ h;refine⟨1,?_⟩;rw[z2_];refine gS_ (by omega) (aa_ (fun e=>by grind) (fun _=> ?_));rw[dX_ (cs:=u8s [115]) (by simp [cells?,u8s]),hy_];exact⟨by simp; omega,r _ (b7_ _ _)⟩
theorem wX_ (h:fk_ x=true) (A:∀ H',H<+:H'→Q (.tup [.s (.str (lv_ x)),.s (.int .i64 0)]) H'):jR_ [.agg [.int .i64 x.id,.int .i64 x.kind,.str x.parent,.str x.label]] H Q:=by
 have ⟨⟨F,r⟩,⟨I,G⟩,b5,b6⟩:=nG_ h;refine⟨1,?_⟩;rw[A8_];refine o8_ (by omega) (aa_ (fun e=>by grind) (fun _=> ?_));rw[jN_ (by omega) r,jN_ (by omega) (show x.kind≤255 by omega),jN_ (show 0≤sz x.parent by simp) (by simp; omega),dX_ (cs:=u8s [bof x.id,bof x.kind,bof (sz x.parent)]) (by simp [cells?,u8s]),hy_];exact⟨by simp; omega,by simp; omega,A _ (b7_ _ _)⟩
theorem wW_ (G:1≤k.1) (A:k.1≤255) (h:bk_ k.2 3=true) (r:∀ H',H<+:H'→Q (.tup [.s (.str (mr_ k)),.s (.int .i64 0)]) H'):jr_ [.g (.int .i64 k.1),.g (.str k.2)] H Q:=by
 have F:=do_ h;refine⟨1,?_⟩;rw[Ad_];refine g7_ (aa_ (fun e=>by simp_all) (fun _=>iN_ (by omega) (aa_ (fun e=>by grind) (fun _=> ?_))));rw[jN_ (by omega) A,dX_ (cs:=u8s [102,bof k.1]) (by simp [cells?,u8s]),hy_];exact⟨by simp; omega,r _ (b7_ _ _)⟩
theorem wf_ (F:1≤i) (A:i≤255) (r:∀ H',H<+:H'→Q (.tup [.s (.str (qu_ i)),.s (.int .i64 0)]) H'):hY_ [.g (.int .i64 i)] H Q:=by
 refine⟨1,?_⟩;rw[zp_];refine g7_ (aa_ (fun e=>by simp_all) (fun _=> ?_));rw[jN_ (by omega) A,dX_ (cs:=u8s [105,bof i]) (by simp [cells?,u8s]),hy_];exact r _ (b7_ _ _)
theorem uK_ (h:ec_ x=true) (D:∀ H',H<+:H'→Q (.tup [.s (.str (sa_ x)),.s (.int .i64 0)]) H'):hW_ [.agg [.int .i64 x.links,.str x.content]] H Q:=by
 have r:=h;unfold ec_ at r;simp only[kR] at r;have G:1≤x.links:=by simp_all
 have A:x.links≤255:=by simp_all
 have I:x.content.size≤6:=by have:=r.2; simp at this; omega
 refine⟨1,?_⟩;rw[yM_];refine nS_ (aa_ (fun e=>by grind) (fun _=> ?_));rw[jN_ (by omega) A,dX_ (cs:=u8s [bof x.links]) (by simp [cells?,u8s]),hy_];exact⟨by simp; omega,D _ (b7_ _ _)⟩
end
def evX (v:ByteArray):RV:= .s (.str v)
theorem uA_ {G:Hp} {l:Nat} {ps:KV} {k v:ByteArray} (M:dO_ ekS evX G l ps) (hn:∀ p∈ps,p.1≠k) {K:Hp→Prop} (hK:∀ H',H'.length=G.length→(∀ l',l'≠l→H'[l']? =G[l']?)→dO_ ekS evX H' l (ps++[(k,v)])→K H'):
 yn_ G (some l) false [.str] (.s (.str k)) (.s (.str v)) K:=
 kk_ (ev:=evX) okS M k v fun H' l' k' m=>hK H' l' k' (by rwa [rz_ hn] at m)
theorem Eh_ (r:bk_ a 4=true) (A:bk_ b 4=true) (e:pX_ a=pX_ b):a=b:=by
 have:=gY_ r;rw[e,gY_ A] at this;grind
section
variable {H:Hp} {Q:Post} {sp ms ml mi:Nat} {c0 c4:GV} {st:StD}
set_option maxRecDepth 100000 in
theorem po_ (h:gL_ H sp c0 ms ml mi c4 st) (ok:y9_ st) (hn:st.snaps.length≤1000∧st.links.length≤1000∧st.inos.length≤1000)
 (hQ:∀ H' mw (ps:KV),H<+:H'→dO_ ekS evX H' mw ps→H.length≤mw→ps.Perm (kK_ st)→Q (.g (.map (some mw))) H'):
 ap_ [.g (.ptr (some (sp,0)))] H Q:=by
 refine⟨st.snaps.length+2*st.links.length+st.inos.length+5,?_⟩;rw[lR_];simp only[af_,kN,f0_,fb_];have h0:=h.keep (H':=H++[.map [] 0]) fun l hl=>by rw[kM hl]
 have hms:=h.snaps.lt;have hml:=h.links.lt;have hmi:=h.inos.lt;obtain⟨_,g1,_⟩:=h0.rd;rw[ad_ g1,dW_];have loop16:∀ (f it:Nat) (zs:List (Int × InoR)) (G:Hp) (zS:List (ByteArray × SnapR)) (zL:List (LKey × LVal)),st.inos.length - zs.length < f→H.length < it→(∀ l,l < H.length→G[l]? =H[l]?)→H.length≤G.length→RgZ ekI evI G it mi st.inos zs→zS.Perm st.snaps→zL.Perm st.links→
  dO_ ekS evX G H.length (zS.map iB_++(zL.map kV_++zs.map rC_))→ap_.l16 f (some H.length) it 0 G Q:=by
  intro f;induction f with
  | zero=>intro it zs G zS zL h; omega
  | succ f ih=>
   intro it zs G zS zL hf hit hk hl R pS pL M;rw[ap_.l16_eq];refine Fb_ R (by omega) h.inos.nodup (fun p hp hpz hzs hlt G1 l1 k1 R1 ent=> ?_) fun hperm=> ?_
   ·refine ent _ ?_;have hc:evI p.2= .a [.int .i64 p.2.links,.str p.2.content]:=rfl;rw[hc];simp only[ekI,bB_,ax_,dS_,aV_,ai_,bi_];obtain⟨b1,b2⟩:=ok.inos p hp;refine wf_ b1.1 b1.2 fun G2 p2=> ?_;simp only[aI_,aB_,bB_,ax_,ai_,aT_];refine uK_ b2 fun G3 p3=> ?_;simp only[aI_,aB_,bB_,ax_,ai_,aT_];have l13:G1<+:G3:=p2.trans p3;have llt:=l13.length_le;have e13:∀ l,l < G.length→G3[l]? =G1[l]? :=fun l hl=>br_ l13 (by omega);have M1:=(M.keep (k1 _ (by omega))).keep (e13 _ (M.lt));refine uA_ M1 (fun q hq e=> ?_) fun G4 l4 k4 M4=> ?_
    ·have nk:=lt_ b1.1 b1.2;simp only[kD,mem_map] at hq;rcases hq with⟨z,hz,rfl⟩ | ⟨z,hz,rfl⟩ | ⟨z,hz,rfl⟩
     ·have:=(jC_ (gY_ (ok.snaps z (pS.mem_iff.1 hz)).1)).2;rw[show pX_ z.1=qu_ p.1 from e,nk] at this; cases this
     ·obtain⟨⟨c1,c2⟩,c3,_⟩:=ok.links z (pL.mem_iff.1 hz);have:=(jL_ (h7_ c1 c2 c3)).2;rw[show mr_ z.1=qu_ p.1 from e,nk] at this; cases this
     ·obtain⟨⟨c1,c2⟩,_⟩:=ok.inos z (hzs z hz);have:=lt_ c1 c2;rw[show qu_ z.1=qu_ p.1 from e,nk] at this;exact hpz (mem_map.2 ⟨z,hz,(Option.some.inj this).symm⟩)
    ·refine ih it (zs++[p]) G4 zS zL (by rw[kI,length_singleton]; omega) hit (fun l hl'=>by rw[k4 l (by omega),e13 l (by omega),k1 l (by omega),hk l hl']) (by omega) ?_ pS pL ?_
     ·have hlt':=R1.ex.elim fun js r=>r.1.lts;exact (R1.keep (e13 _ (by omega)) (e13 _ (by omega))).keep (k4 _ (by omega)) (k4 _ (by omega))
     ·rw[kL,←append_assoc (zL.map kV_),←append_assoc]; exact M4
   ·refine hQ G H.length _ (pw_ hl hk) M (kO _) ?_;exact (pS.map _).append ((pL.map _).append (hperm.map _))
 have loop8:∀ (f it:Nat) (zs:List (LKey × LVal)) (G:Hp) (zS:List (ByteArray × SnapR)),2*(st.links.length - zs.length)+st.inos.length+3≤f→H.length < it→(∀ l,l < H.length→G[l]? =H[l]?)→H.length < G.length→RgZ ekL evL G it ml st.links zs→zS.Perm st.snaps→
  dO_ ekS evX G H.length (zS.map iB_++zs.map kV_)→ap_.l8 f (some (sp,0)) (some H.length) it 0 G Q:=by
  intro f;induction f using Nat.strongRecOn with
  | ind f ih=>
   intro it zs G zS hf hit hk hl R pS M;obtain⟨f,rfl⟩:∃ f',f=f'+2:=⟨f - 2,by omega⟩;rw[ap_.l8_eq];refine Fb_ R (by omega) h.links.nodup (fun p hp hpz hzs hlt G1 l1 k1 R1 ent=> ?_) fun hperm=> ?_
   ·refine ent _ ?_;simp only[ekL,evL,bB_,ax_,dS_,aV_,ai_,ak_,bi_];obtain⟨⟨b1,b2⟩,b3,b4,b5⟩:=ok.links p hp;refine wW_ b1 b2 b3 fun G2 p2=> ?_;simp only[aI_,aB_,bB_,ax_,ai_,aT_];have fin:∀ (b:Bool) (n:Int),p.2.2=b→n=((uG_ b).toNat:Int)→ap_.l14 (f+1) (some (sp,0)) (some H.length) p.2.1 b (mr_ p.1) n it 0 G2 Q:=by
     intro b n hb hn';rw[ap_.l14_eq];simp only[f0_,fb_];rw[jN_ b4 b5,hn',dX_ (cs:=u8s [bof p.2.1,uG_ b]) (by simp [cells?,u8s]),hy_];have ev:mkS [bof p.2.1,uG_ b]=t2_ p.2:=by
      subst hb; unfold t2_; generalize p.2.2=o; cases o<;>rfl
     rw[ev];have l13:=p2.trans (b7_ G2 (.row true 5 (u8s [bof p.2.1,uG_ b])));have llt:=l13.length_le;have e13:∀ l,l < G.length→(G2++[.row true 5 (u8s [bof p.2.1,uG_ b])])[l]? =G1[l]? :=fun l hl=>br_ l13 (by omega);have M1:=(M.keep (k1 _ (by omega))).keep (e13 _ (M.lt));refine uA_ M1 (fun q hq e=> ?_) fun G4 l4 k4 M4=> ?_
     ·have nk:=h7_ b1 b2 b3;simp only[kD,mem_map] at hq;rcases hq with⟨z,hz,rfl⟩ | ⟨z,hz,rfl⟩
      ·have:=(jC_ (gY_ (ok.snaps z (pS.mem_iff.1 hz)).1)).1;rw[show pX_ z.1=mr_ p.1 from e,nk] at this; cases this
      ·obtain⟨⟨c1,c2⟩,c3,_⟩:=ok.links z (hzs z hz);have:=h7_ c1 c2 c3;rw[show mr_ z.1=mr_ p.1 from e,nk] at this;exact hpz (mem_map.2 ⟨z,hz,(Option.some.inj this).symm⟩)
     ·refine ih f (by omega) it (zs++[p]) G4 zS (by rw[kI,length_singleton]; omega) hit (fun l hl'=>by rw[k4 l (by omega),e13 l (by omega),k1 l (by omega),hk l hl']) (by omega) ?_ pS ?_
      ·have hlt':=R1.ex.elim fun js r=>r.1.lts;exact (R1.keep (e13 _ (by omega)) (e13 _ (by omega))).keep (k4 _ (by omega)) (k4 _ (by omega))
      ·rw[kL,←append_assoc]; exact M4
    refine aa_ (fun e=> ?_) fun e=> ?_
    ·have:=fin true 1 e (by simp [uG_]);rw[e]; exact this
    ·have:=fin false 0 e (by simp [uG_]);rw[e]; exact this
   ·have hG:=h.keep hk;obtain⟨_,_,_,g3,_⟩:=hG.rd;simp only[af_,kN,fb_];rw[ad_ g3,dW_];refine En_ hG.inos fun o R16=> ?_;exact loop16 (f+1) _ [] _ zS zs (by simp; omega) hl (fun l hl'=>by rw[kM (by omega)]; exact hk l hl') (by simp; omega) R16 pS hperm (by simpa using M.keep (by rw[kM M.lt]))
 refine En_ h0.snaps fun o R0=> ?_;have e0:(H++[Obj.map [] 0]).length=H.length+1:=by simp
 rw[e0] at R0 ⊢;have loop:∀ (f:Nat) (zs:List (ByteArray × SnapR)) (G:Hp),(st.snaps.length - zs.length)+2*st.links.length+st.inos.length+4≤f→(∀ l,l < H.length→G[l]? =H[l]?)→H.length < G.length→RgZ ekS evS G (H.length+1) ms st.snaps zs→dO_ ekS evX G H.length (zs.map iB_)→
  ap_.l3 f (some (sp,0)) (some H.length) (H.length+1) 0 G Q:=by
  intro f;induction f with
  | zero=>intro zs G h; omega
  | succ f ih=>
   intro zs G hf hk hl R M;rw[ap_.l3_eq];refine Fb_ R (by omega) h.snaps.nodup (fun p hp hpz hzs hlt G1 l1 k1 R1 ent=> ?_) fun hperm=> ?_
   ·refine ent _ ?_;have hc:evS p.2= .a [.int .i64 p.2.id,.int .i64 p.2.kind,.str p.2.parent,.str p.2.label]:=rfl;rw[hc];simp only[ekS,bB_,ax_,dS_,aV_,ai_,bi_];obtain⟨b1,b2⟩:=ok.snaps p hp;refine wJ_ b1 fun G2 p2=> ?_;simp only[aI_,aB_,bB_,ax_,ai_,aT_];refine wX_ b2 fun G3 p3=> ?_;simp only[aI_,aB_,bB_,ax_,ai_,aT_];have l13:G1<+:G3:=p2.trans p3;have llt:=l13.length_le;have e13:∀ l,l < G.length→G3[l]? =G1[l]? :=fun l hl=>br_ l13 (by omega);have M1:=(M.keep (k1 _ (by omega))).keep (e13 _ (M.lt));refine uA_ M1 (fun q hq e=> ?_) fun G4 l4 k4 M4=> ?_
    ·obtain⟨z,hz,rfl⟩:=mem_map.1 hq;exact hpz (mem_map.2 ⟨z,hz,Eh_ (ok.snaps z (hzs z hz)).1 b1 e⟩)
    ·refine ih (zs++[p]) G4 (by rw[kI,length_singleton]; omega) (fun l hl'=>by rw[k4 l (by omega),e13 l (by omega),k1 l (by omega),hk l hl']) (by omega) ?_ ?_
     ·have hlt':=R1.ex.elim fun js r=>r.1.lts;exact (R1.keep (e13 _ (by omega)) (e13 _ (by omega))).keep (k4 _ (by omega)) (k4 _ (by omega))
     ·rw[kL]; exact M4
   ·have hG:=h.keep hk;obtain⟨_,_,g2,_⟩:=hG.rd;simp only[af_,kN,fb_];rw[ad_ g2,dW_];refine En_ hG.links fun o R8=> ?_;exact loop8 f _ [] _ zs (by simp; omega) hl (fun l hl'=>by rw[kM (by omega)]; exact hk l hl') (by simp; omega) R8 hperm (by simpa using M.keep (by rw[kM M.lt]))
 exact loop _ [] _ (by simp) (fun l hl=>by rw[kM (by simp; omega),kM hl]) (by simp) R0 ((lj_ H).keep (by rw[kM (by simp)]))
end
end Go.Am
end
namespace Go.Am
open List
theorem vv_ (h:cY_ p=true):p=noPg:=by
 have ⟨u,l,r,A,is⟩:=p;simp [cY_] at h;obtain⟨rfl,rfl,rfl,rfl,rfl⟩:=h;rfl
theorem SF.page (s:SF T st) {i:Nat} (A:T[i]? =some p):kv_ p=true∧p.used=true∨p=noPg:=by
 cases D:p.used with
 | true=>exact .inl ⟨(s.used A D).2.1,rfl⟩
 | false=>
  refine .inr ?_;have ⟨I,_⟩:=kC.1 A;rcases us_ s.rest I A with q | q
  ·have O:=s.len;have G:st.met[i]? =some true:=by
    rw[kG (by rw[s.metlen]; omega)];grind
   rcases (jf_ T _ _ _ _ _ _ _ s.walk).2.2 i G with h | ⟨r,F,J,N⟩
   ·rw[l1_ i (by omega)] at h; cases h
   ·rw[A] at F; cases F;rw[((ef_ _).1 J).2.used] at D; cases D
  ·exact vv_ q
theorem Aa_ (h:0 < aK_ T):∀ p∈T,kv_ p=true∨p=noPg:=fun p r=>by
 have ⟨st,s⟩:=SF.of h;have ⟨i,A,e⟩:=kK r;rcases s.page (kC.2 ⟨A,e⟩) with q | q
 ·grind
 ·grind
theorem ew_.pc (h:ew_ H b u l I J G n2 F N p):(⟨u,l,I,J,G,n2,F,N⟩:PC).own H b p:=
 ⟨h.used,h.leaf,h.keys,h.vals,h.kids,fun l o D r A=>h.d12 l (h.keys.zero r) (h.vals.zero A),fun l o D r A=>h.d13 l (h.keys.zero r) (h.kids.zero A),fun l o D r A=>h.d23 l (h.vals.zero r) (h.kids.zero A)⟩
theorem ew_.fresh (h:ew_ H b u l r F D n2 G A p):∀ m,(⟨u,l,r,F,D,n2,G,A⟩:PC).on m→b≤m:=by
 rintro m ⟨o,e | e | e⟩
 ·exact h.keys.above e
 ·exact h.vals.above e
 ·exact h.kids.above e
theorem yL_ (r:fS_ p):p.kids.length≤5:=by
 have D:=r.1;cases A:p.leaf with
 | true=>rw[(r.2.leaf A).2.1]; simp
 | false=>have:=(r.2.inner A).2.2.1; omega
end Go.Am
namespace Go.Am
open List
abbrev js_ (H:Hp) (l:Nat) (xs:List ByteArray):Prop:=H[l]? =some (.row true tS (xs.map GV.str))
abbrev pL_ (H:Hp) (l:Nat) (xs:List Int):Prop:=H[l]? =some (.row true tI (xs.map (GV.int .i64)))
structure Wo (b hi d:Nat) (H H':Hp):Prop where
 len:H'.length=H.length
 low:∀ l,¬ (b≤l∧l < hi)→H'[l]? =H[l]?
 tx:∀ l xs M,js_ H l xs→(∀ x∈xs,x.size≤M)→∃ ys,js_ H' l ys∧ys.length=xs.length∧∀ x∈ys,x.size≤M+d
 nu:∀ l xs,pL_ H l xs→∃ ys,pL_ H' l ys∧ys.length=xs.length
 pg:∀ (l:Nat) (cs:List GV),H[l]? =some (Obj.row true tPg cs)→H'[l]? =some (Obj.row true tPg cs)
theorem Wo.refl (b hi d:Nat) (H:Hp):Wo b hi d H H:=⟨rfl,fun _ _=>rfl,fun l r M h D=>⟨r,h,rfl,fun x A=>by grind⟩,fun l r h=>⟨r,h,rfl⟩,fun _ _ h=>h⟩
theorem Wo.trans (h:Wo b hi d H H1) (A:Wo b hi d' H1 H2):Wo b hi (d+d') H H2:=
 ⟨A.len.trans h.len,fun l O=>(A.low l O).trans (h.low l O),fun l G M r Y=>by
  have ⟨I,J,Z,V⟩:=h.tx l G M r Y;have ⟨F,D,b2,W⟩:=A.tx l I _ J V;exact⟨F,D,by omega,fun x U=>by have:=W x U; omega⟩,fun l G r=>by
  have ⟨I,J,Z⟩:=h.nu l G r;have ⟨F,D,b2⟩:=A.nu l I J;exact⟨F,D,by omega⟩,fun l N r=>A.pg l N (h.pg l N r)⟩
theorem Hd_ {H:Hp} {l:Nat} (h:H[l]? =some (.row true t cs)) (r:H[l]? =some (.row true t' cs')):t=t'∧cs=cs':=by
 grind
theorem Gv_ {xs ys:List ByteArray} (h:xs.map GV.str=ys.map GV.str):xs=ys:=by
 have:=congrArg (List.map fun | GV.str s=>s | _=>mkS []) h;simpa [Function.comp_def]
theorem FQ_ {xs ys:List Int} (h:xs.map (GV.int .i64)=ys.map (GV.int .i64)):xs=ys:=by
 have:=congrArg (List.map fun | GV.int _ s=>s | _=>0) h;simpa [Function.comp_def]
theorem Wo.str (J:b≤l∧l < hi) (h:js_ H l xs) (G:∀ M,(∀ x∈xs,x.size≤M)→s.size≤M+1):Wo b hi 1 H (H.set l (.row true tS ((xs.set j s).map GV.str))):=by
 refine⟨by simp,fun m A=>by rw[kF]; omega,fun m D M r A=> ?_,fun m D r=> ?_,fun m I r=> ?_⟩
 ·by_cases e:l=m
  ·subst e;have ⟨_,q⟩:=Hd_ h r;have q:=Gv_ q;grind
  ·exact⟨D,by unfold js_; rw[kF e]; exact r,rfl,fun x F=>by have:=A x F; omega⟩
 ·grind
 ·grind
theorem Wo.int (G:b≤l∧l < hi) (h:pL_ H l xs):Wo b hi 0 H (H.set l (.row true tI ((xs.set j s).map (GV.int .i64)))):=by
 have I:=(kC.1 h).1;refine⟨by simp,fun m A=>by rw[kF]; omega,fun m D M r A=> ?_,fun m D r=> ?_,fun m cs r=> ?_⟩
 ·grind
 ·by_cases e:l=m
  ·subst e;obtain⟨_,q⟩:=Hd_ h r;have q:=FQ_ q;grind
  ·grind
 ·grind
def TxR (H:Hp) (b M:Nat) (a:Pl) (n:Nat):Prop:=n=0∨∃ l o xs,a=some (l,o)∧b≤l∧js_ H l xs∧o+n≤xs.length∧∀ x∈xs,x.size≤M
def NuR (H:Hp) (b:Nat) (a:Pl) (n:Nat):Prop:=n=0∨∃ l o xs,a=some (l,o)∧b≤l∧pL_ H l xs∧o+n≤xs.length
structure WoP (H:Hp) (b M:Nat) (c:PC):Prop where
 t1:TxR H b M c.a1 c.n1
 t2:TxR H b M c.a2 c.n2
 t3:NuR H b c.a3 c.n3
 s1:c.n1≤1000
 s2:c.n2≤1000
 s3:c.n3≤1000
def TxS (H:Hp) (b hi M:Nat) (a:Pl) (n:Nat):Prop:=n=0∨∃ l o xs,a=some (l,o)∧(b≤l∧l < hi)∧js_ H l xs∧o+n≤xs.length∧∀ x∈xs,x.size≤M
def NuS (H:Hp) (b hi:Nat) (a:Pl) (n:Nat):Prop:=n=0∨∃ l o xs,a=some (l,o)∧(b≤l∧l < hi)∧pL_ H l xs∧o+n≤xs.length
theorem TxS.on (h:TxS H b hi M a n) (w:Wo b hi d H H'):TxS H' b hi (M+d) a n:=by
 rcases h with h | ⟨l,o,I,e,A,r,N,G⟩
 ·exact .inl h
 ·have ⟨J,D,O,F⟩:=w.tx l I M r G;exact .inr ⟨l,o,J,e,A,D,by omega,F⟩
theorem NuS.on (h:NuS H b hi a n) (w:Wo b hi d H H'):NuS H' b hi a n:=by
 rcases h with h | ⟨l,o,F,e,A,r,I⟩
 ·exact .inl h
 ·have ⟨G,D,J⟩:=w.nu l F r;exact .inr ⟨l,o,G,e,A,D,by omega⟩
theorem TxS.big (h:TxS H b hi M a n) (r:M≤M'):TxS H b hi M' a n:=by
 rcases h with h | ⟨l,o,J,e,F,D,G,I⟩
 ·exact .inl h
 ·exact .inr ⟨l,o,J,e,F,D,G,fun x A=>Nat.le_trans (I x A) r⟩
section
variable {H:Hp} {Q:Post} {b hi M:Nat} {a:Pl} {n:Nat}
structure WoS (H:Hp) (b hi M:Nat) (c:PC):Prop where
 t1:TxS H b hi M c.a1 c.n1
 t2:TxS H b hi M c.a2 c.n2
 t3:NuS H b hi c.a3 c.n3
 s1:c.n1≤1000
 s2:c.n2≤1000
 s3:c.n3≤1000
theorem WoS.on (h:WoS H b hi M c) (w:Wo b hi d H H'):WoS H' b hi (M+d) c:=⟨h.t1.on w,h.t2.on w,h.t3.on w,h.s1,h.s2,h.s3⟩
theorem WoS.big (h:WoS H b hi M c) (r:M≤M'):WoS H b hi M' c:=⟨h.t1.big r,h.t2.big r,h.t3,h.s1,h.s2,h.s3⟩
theorem Wo.big (w:Wo b hi d H H') (O:d≤d'):Wo b hi d' H H':=
 ⟨w.len,w.low,fun l J M A I=>by have ⟨N,D,G,F⟩:=w.tx l J M A I; exact⟨N,D,G,fun x r=>by have:=F x r; omega⟩,w.nu,w.pg⟩
end
end Go.Am
section
namespace Go.Am
open List
section
variable {H:Hp} {Q:Post} {a:Pl} {n:Nat}
theorem xJ_ (h:Ss H a n xs) (A:∀ r H',H<+:H'→Own H' H.length tS r n (xs.map GV.str)→(∀ l o,r=some (l,o)→l < H'.length)→Q (.g (.sl r n 1)) H'):bE_ [.g (.sl a n 1)] H Q:=by
 have G:=h.len;have J:=h.lim;refine⟨1,?_⟩;rw[hO_];refine aa_ (fun e=> ?_) (fun e=> ?_)
 ·cases a with
  | some p=>cases e
  | none=>
   have D:=h.cells;simp [cells?] at D;have ⟨I,F⟩:=D;subst F; subst I;exact A none H (prefix_refl _) (.inl ⟨rfl,rfl,rfl⟩) (fun _ _ e=>(by grind))
 ·rw[ae_,Nat.mul_one,dX_ h.cells];refine p7_ (by unfold Lim; omega) (by grind) ?_;exact A _ _ (b7_ _ _) (.inr ⟨_,rfl,kO _,by simp,by simp [G]⟩) (fun _ _ e=>(by simp_all))
theorem DV_ (h:Is H a n xs) (A:∀ r H',H<+:H'→Own H' H.length tI r n (xs.map (GV.int .i64))→(∀ l o,r=some (l,o)→l < H'.length)→Q (.g (.sl r n 1)) H'):cw_ [.g (.sl a n 1)] H Q:=by
 have G:=h.len;have J:=h.lim;refine⟨1,?_⟩;rw[kU_];refine aa_ (fun e=> ?_) (fun e=> ?_)
 ·cases a with
  | some p=>cases e
  | none=>
   have D:=h.cells;simp [cells?] at D;have ⟨I,F⟩:=D;subst F; subst I;exact A none H (prefix_refl _) (.inl ⟨rfl,rfl,rfl⟩) (fun _ _ e=>(by grind))
 ·rw[ae_,Nat.mul_one,dX_ h.cells];refine p7_ (by unfold Lim; omega) (by grind) ?_;exact A _ _ (b7_ _ _) (.inr ⟨_,rfl,kO _,by simp,by simp [G]⟩) (fun _ _ e=>(by simp_all))
theorem zV_ (h:Own H b tS a n cs) (A:Q (.g (.sl a n 1)) H):bM_ [.g (.sl a n 1)] H Q:=by
 refine⟨1,?_⟩;rw[it_,ae_];refine ab_ (by simp) (ab_ (by simp) ?_);rcases h with⟨rfl,rfl,rfl⟩ | ⟨l,rfl,F,r,D⟩
 ·exact ab_ (by simp [oT_]) A
 ·refine ab_ ?_ ?_
  ·simp [oT_,r,D]
  ·simp_all
theorem Fz_ (h:Own H b tI a n cs) (A:Q (.g (.sl a n 1)) H):cK_ [.g (.sl a n 1)] H Q:=by
 refine⟨1,?_⟩;rw[lm_,ae_];refine ab_ (by simp) (ab_ (by simp) ?_);rcases h with⟨rfl,rfl,rfl⟩ | ⟨l,rfl,F,r,D⟩
 ·exact ab_ (by simp [oT_]) A
 ·refine ab_ ?_ ?_
  ·simp [oT_,r,D]
  ·simp_all
end
def ay_ (a:Pg) (k:ByteArray) (b:Pg):Pg:=⟨a.used,a.leaf,(match a.leaf with | true=>a.keys | false=>a.keys++[k])++b.keys,a.vals++b.vals,a.kids++b.kids⟩
def lE_ (a:Pg) (k:ByteArray) (b:Pg):Prop:=fS_ a∧fS_ b∧a.leaf=b.leaf∧fS_ (ay_ a k b)
section
variable {H:Hp} {Q:Post} {u l:Bool} {a1:Pl} {n1:Nat} {a2:Pl} {n2:Nat} {a3:Pl} {n3:Nat} {p:Pg} {u' l':Bool} {b1:Pl} {m1:Nat} {b2:Pl} {m2:Nat} {b3:Pl} {m3:Nat} {q:Pg} {key:ByteArray}
theorem hr_ (h:jJ_ H u l G n1 J n2 I n3 p) (Y:n1≤1000∧n2≤1000∧n3≤1000)
 (W:∀ G J I H',H<+:H'→ew_ H' H.length u l G n1 J n2 I n3 p→Q (.agg [.bool u,.bool l,.sl G n1 1,.sl J n2 1,.sl I n3 1]) H'):
 eT_ [.agg [.bool u,.bool l,.sl G n1 1,.sl J n2 1,.sl I n3 1]] H Q:=by
 refine⟨1,?_⟩;rw[yT_];refine xJ_ h.keys fun b1 Z F U _=> ?_;simp [aN_];refine xJ_ (h.vals.mono F) fun b2 H2 D O _=> ?_;simp [aN_];refine DV_ (h.kids.mono (F.trans D)) fun b3 H3 V N _=> ?_;simp [aN_];refine W _ _ _ _ (F.trans (D.trans V)) ⟨h.used,h.leaf,U.mono (D.trans V),(O.base F.length_le).mono V,N.base (F.trans D).length_le,fun m r A=> ?_,fun m r A=> ?_,fun m r A=> ?_,Y⟩
 ·have:=U.lt' r; have:=O.above A; omega
 ·have:=U.lt' r; have:=N.above A; have:=D.length_le; omega
 ·have:=O.lt' r; have:=N.above A; omega
set_option maxRecDepth 4000 in
theorem nj_ (h:jJ_ H u l a1 n1 a2 n2 a3 n3 p) (h':jJ_ H u' l' b1 m1 b2 m2 b3 m3 q) (hs:n1≤100∧n2≤100∧n3≤100) (hs':m1≤100∧m2≤100∧m3≤100)
 (hQ:∀ u l a1 n1 a2 n2 a3 n3 H',H<+:H'→ew_ H' H.length u l a1 n1 a2 n2 a3 n3 (ay_ p key q)→Q (.agg [.bool u,.bool l,.sl a1 n1 1,.sl a2 n2 1,.sl a3 n3 1]) H'):
 db_ [.agg [.bool u,.bool l,.sl a1 n1 1,.sl a2 n2 1,.sl a3 n3 1],.g (.str key),.agg [.bool u',.bool l',.sl b1 m1 1,.sl b2 m2 1,.sl b3 m3 1]] H Q:=by
 refine⟨2,?_⟩;rw[yJ_];refine hr_ h (by omega) fun x1 x2 x3 H1 p1 o1=> ?_;simp only[dE_,aV_,ak_,ah_,bi_];have key4:∀ (x1:Pl) (k1:Nat) (H1:Hp) (r:Pg),k1≤101→H<+:H1→ew_ H1 H.length u l x1 k1 x2 n2 x3 n3 r→(⟨r.used,r.leaf,r.keys++q.keys,r.vals++q.vals,r.kids++q.kids⟩:Pg)=ay_ p key q→
  db_.l4 1 u' l' b1 m1 b2 m2 b3 m3 false false none 0 none 0 none 0 u l x1 k1 x2 n2 x3 n3 H1 Q:=by
  intro x1 k1 H1 r hk1 p1 o1 hks;rw[db_.l4_eq,ae_,Nat.mul_one,dX_ (h'.mono p1).keys.cells,ae_];refine o1.addKeys p1 q.keys rfl h'.keys.len (by omega) fun y1 H2 p2 o2=> ?_;rw[ae_,Nat.mul_one,dX_ (h'.mono p2).vals.cells,ae_];refine o2.addVals p2 q.vals rfl h'.vals.len (by omega) fun y2 H3 p3 o3=> ?_;rw[ae_,Nat.mul_one,dX_ (h'.mono p3).kids.cells,ae_];refine o3.addKids p3 q.kids rfl h'.kids.len (by omega) fun y3 H4 p4 o4=> ?_;refine hQ _ _ _ _ _ _ _ _ _ p4 ?_;rw[←hks];exact o4
 have hl:=h.leaf;cases l with
 | true=>
  rw[aD_ (by decide)];have e4:(⟨p.used,p.leaf,p.keys++q.keys,p.vals++q.vals,p.kids++q.kids⟩:Pg)=ay_ p key q:=by unfold ay_; rw[hl]
  have hk:n1≤101:=by omega
  have t0:=key4 x1;have t00:=t0 n1;have t01:=t00 H1;have t1:=t01 p;have t2:=t1 hk;have:=t2 p1;have:=this o1;have:=this e4;exact this
 | false=>
  rw[az_ (by decide),ae_];refine o1.addKeys p1 [key] (m:=1) rfl rfl (by omega) fun y1 H2 p2 o2=> ?_;exact key4 y1 (n1+1) H2 _ (by omega) p2 o2 (by unfold ay_; rw[hl])
theorem n3_ (h:jJ_ H u l a1 n1 a2 n2 a3 n3 p) (F:fS_ p):n1≤100∧n2≤100∧n3≤100:=by
 have N:=h.keys.len;have J:=h.vals.len;have O:=h.kids.len;have ⟨U,A⟩:=F;cases r:p.leaf with
 | true=>
  have ⟨G,I,D⟩:=A.leaf r;grind
 | false=>
  have ⟨G,I,D,V,W⟩:=A.inner r;grind
theorem ew_.base (h:ew_ H b u l a1 n1 a2 n2 a3 n3 p) (r:b'≤b):ew_ H b' u l a1 n1 a2 n2 a3 n3 p:=
 ⟨h.used,h.leaf,h.keys.base r,h.vals.base r,h.kids.base r,h.d12,h.d13,h.d23,h.small⟩
theorem v3_ (h:jJ_ H u l a1 n1 a2 n2 a3 n3 p) (h':jJ_ H u' l' b1 m1 b2 m2 b3 m3 q) (hQ1: ¬ lE_ p key q→∀ H',H<+:H'→Q (.tup [.a [.bool false,.bool false,.sl none 0 1,.sl none 0 1,.sl none 0 1],.s (.int .i64 900)]) H')
 (hQ2:lE_ p key q→∀ u l a1 n1 a2 n2 a3 n3 H',H<+:H'→ew_ H' H.length u l a1 n1 a2 n2 a3 n3 (ay_ p key q)→Q (.tup [.a [.bool u,.bool l,.sl a1 n1 1,.sl a2 n2 1,.sl a3 n3 1],.s (.int .i64 0)]) H'):
 hS_ [.agg [.bool u,.bool l,.sl a1 n1 1,.sl a2 n2 1,.sl a3 n3 1],.g (.str key),.agg [.bool u',.bool l',.sl b1 m1 1,.sl b2 m2 1,.sl b3 m3 1]] H Q:=by
 refine⟨1,?_⟩;rw[yX_];refine ie_ h fun b H1 p1 hb=> ?_;simp only[aN_,ak_];refine aa_ (fun e=>hQ1 (fun c=>by have:=hb.2 c.1; subst this; cases e) _ p1) (fun e=> ?_);have hm1:fS_ p:=hb.1 (by cases b<;>simp_all);refine ie_ (h'.mono p1) fun b' H2 p2 hb'=> ?_;simp only[aN_,ak_];refine aa_ (fun e=>hQ1 (fun c=>by have:=hb'.2 c.2.1; subst this; cases e) _ (p1.trans p2)) (fun e'=> ?_);have hm2:fS_ q:=hb'.1 (by cases b'<;>simp_all);refine aa_ (fun e=>hQ1 (fun c=>by have:=c.2.2.1; rw[h.leaf,h'.leaf] at this; subst this; simp at e) _ (p1.trans p2)) (fun e2=> ?_);have hll:p.leaf=q.leaf:=by rw[h.leaf,h'.leaf]; simpa using e2
 have p12:=p1.trans p2;refine nj_ (h.mono p12) (h'.mono p12) (n3_ h hm1) (n3_ h' hm2) fun ul ll c1 k1 c2 k2 c3 k3 H3 p3 o3=> ?_;simp only[dE_,aV_,ak_,ah_,bi_];refine ie_ o3.at fun b3 H4 p4 hb3=> ?_;simp only[aN_,ak_];refine aa_ (fun e=>hQ1 (fun c=>by have:=hb3.2 c.2.2.2; subst this; cases e) _ (p12.trans (p3.trans p4))) (fun e3=> ?_);have hm3:fS_ (ay_ p key q):=hb3.1 (by cases b3<;>simp_all);have o4:=o3.mono p4;refine zV_ o4.keys ?_;simp only[aN_,ah_];refine zV_ o4.vals ?_;simp only[aN_,ah_];refine Fz_ o4.kids ?_;simp only[aN_,ah_];exact hQ2 ⟨hm1,hm2,hll,hm3⟩ _ _ _ _ _ _ _ _ _ (p12.trans (p3.trans p4)) (o4.base p12.length_le)
end
end Go.Am
end
section
namespace Go.Am
open List
theorem TxR.of_own {xs:List ByteArray} (h:Own H b tS a n (xs.map GV.str)) (D:∀ s∈xs,s.size≤M):TxR H b M a n:=by
 rcases h with⟨_,q,_⟩ | ⟨l,e,A,r,F⟩
 ·exact .inl q
 ·exact .inr ⟨l,0,_,e,A,r,by grind,D⟩
theorem NuR.of_own {xs:List Int} (h:Own H b tI a n (xs.map (GV.int .i64))):NuR H b a n:=by
 rcases h with⟨_,q,_⟩ | ⟨l,e,A,r,D⟩
 ·exact .inl q
 ·exact .inr ⟨l,0,_,e,A,r,by grind⟩
theorem TxR.part (h:TxR H b M a n) (k m:Nat) (I:k+m≤n):TxR H b M (shf a k) m:=by
 rcases h with q | ⟨l,o,D,e,F,A,G,r⟩
 ·exact .inl (by omega)
 ·exact .inr ⟨l,o+k,D,by simp_all,F,A,by omega,r⟩
theorem NuR.part (h:NuR H b a n) (k m:Nat) (G:k+m≤n):NuR H b (shf a k) m:=by
 rcases h with q | ⟨l,o,A,e,D,r,F⟩
 ·exact .inl (by omega)
 ·exact .inr ⟨l,o+k,A,by simp_all,D,r,by omega⟩
theorem TxR.base (h:TxR H b M a n) (r:b'≤b):TxR H b' M a n:=by
 rcases h with q | ⟨l,o,D,e,I,A,F,G⟩
 ·exact .inl q
 ·exact .inr ⟨l,o,D,e,by omega,A,F,G⟩
theorem NuR.base (h:NuR H b a n) (r:b'≤b):NuR H b' a n:=by
 rcases h with q | ⟨l,o,D,e,G,A,F⟩
 ·exact .inl q
 ·exact .inr ⟨l,o,D,e,by omega,A,F⟩
theorem WoP.base (h:WoP H b M c) (r:b'≤b):WoP H b' M c:=⟨h.t1.base r,h.t2.base r,h.t3.base r,h.s1,h.s2,h.s3⟩
def small (p:Pg):Prop:=(∀ s∈p.keys,s.size≤1000)∧(∀ s∈p.vals,s.size≤1000)∧p.keys.length≤1000∧p.vals.length≤1000∧p.kids.length≤1000
theorem ji_ (h:fS_ p):small p:=by
 have D:=yL_ h;have F:=h.1;refine⟨fun s A=>by have:=(h.2.keys s A).2; omega,fun s A=> ?_,by omega,?_,by omega⟩
 ·cases r:p.leaf with
  | true=>have:=(h.2.leaf r).2.2 s A; omega
  | false=>rw[(h.2.inner r).2.1] at A; cases A
 ·cases r:p.leaf with
  | true=>have:=(h.2.leaf r).1; omega
  | false=>rw[(h.2.inner r).2.1]; simp
theorem Fn_:small noPg:=by simp [small,noPg]
theorem tf_ (h:0 < aK_ T):∀ p∈T,small p:=fun p r=>by
 rcases Aa_ h p r with q | rfl
 ·exact ji_ ((ef_ p).1 q)
 ·exact Fn_
theorem PC.own.wo (h:c.own H b p) (r:c.at H p) (F:small p):WoP H b 1000 c:=by
 have ⟨A,D,J,N,G⟩:=F;have O:=r.keys.len;have I:=r.vals.len;have U:=r.kids.len;exact⟨.of_own h.keys A,.of_own h.vals D,.of_own h.kids,by omega,by omega,by omega⟩
def hd_ (p:Pg) (k:Nat):Pg:=match p.leaf with
 | true=>⟨p.used,true,p.keys.take k,p.vals.take k,p.kids⟩
 | false=>⟨p.used,false,p.keys.take k,p.vals,p.kids.take (k+1)⟩
def gR_ (p:Pg) (k:Nat):Pg:=match p.leaf with
 | true=>⟨p.used,true,p.keys.drop k,p.vals.drop k,p.kids⟩
 | false=>⟨p.used,false,p.keys.drop (k+1),p.vals,p.kids.drop (k+1)⟩
theorem iT_ (h:shf a k=some (l,o)):∃ r,a=some (l,r):=by
 cases a with
 | none=>cases h
 | some q=>have ⟨m,r⟩:=q; simp at h; exact⟨r,by grind⟩
theorem Ss.nth (h:Ss H a n xs) (A:k < xs.length):∃ l o,a=some (l,o)∧gt H l (o+k)=some (.str xs[k]):=by
 have r:=h.cells;have D:=h.len;cases a with
 | none=>simp [cells?] at r; omega
 | some q=>
  have ⟨l,o⟩:=q;exact⟨l,o,rfl,by rw[jk_ r (by omega)]; simp⟩
theorem Is.part' (h:Is H a n xs) (k m:Nat) (A:k+m≤n):Is H (shf a k) m ((xs.drop k).take m):=by
 have D:=h.len;have r:=h.lim;exact⟨by have:=h1_ h.cells k m A; simpa using this,by grind,by omega⟩
section
variable {H:Hp} {Q:Post} {u l:Bool} {a1:Pl} {n1:Nat} {a2:Pl} {n2:Nat} {a3:Pl} {n3:Nat} {p:Pg}
set_option maxRecDepth 10000 in
theorem zF_ (h:jJ_ H u l a1 n1 a2 n2 a3 n3 p) (hs:small p) {k:Nat} (hk:k < p.keys.length) (hL:p.leaf=true→p.vals.length=p.keys.length) (hI:p.leaf=false→p.kids.length=p.keys.length+1)
 (hQ:∀ (c d:PC) H',H<+:H'→c.at H' (hd_ p k)→d.at H' (gR_ p k)→WoP H' H.length 1000 c→WoP H' H.length 1000 d→(∀ m,c.on m→H.length≤m∧ ¬ d.on m)→(∀ m,d.on m→H.length≤m)→
  Q (.tup [.a [.bool c.u,.bool c.l,.sl c.a1 c.n1 1,.sl c.a2 c.n2 1,.sl c.a3 c.n3 1],.s (.str p.keys[k]),.a [.bool d.u,.bool d.l,.sl d.a1 d.n1 1,.sl d.a2 d.n2 1,.sl d.a3 d.n3 1]]) H'):
 jv_ [.agg [.bool u,.bool l,.sl a1 n1 1,.sl a2 n2 1,.sl a3 n3 1],.g (.int .i64 (k:Int))] H Q:=by
 have e1:=h.keys.len;have e2:=h.vals.len;have e3:=h.kids.len;have hu:=h.used;have hl:=h.leaf;have hs':=hs;obtain⟨s1,s2,s3,s4,s5⟩:=hs';have etN:tN (k:Int)=k:=rfl;refine⟨1,?_⟩;rw[zY_];obtain⟨m,o,rfl,hg⟩:=h.keys.nth hk;rw[ae_];refine ab_ (by simp; omega) ?_;rw[af_,etN,Nat.mul_one,ad_ hg,ax_];refine hr_ h (by omega) fun x1 x2 x3 H1 p1 o1=> ?_;simp only[dE_,aV_,ak_,ah_,bi_];rw[ad_ (b6_ p1 hg),ax_];refine⟨rfl,?_⟩;refine hr_ (h.mono p1) (by omega) fun y1 y2 y3 H2 p2 o2=> ?_;simp only[dE_,aV_,ak_,ah_,bi_];rw[ad_ (b6_ (p1.trans p2) hg),ax_];refine⟨rfl,?_⟩;rw[ae_];refine ab_ (by simp) (ab_ (by simp; omega) ?_);have A:=(o1.mono p2).at;have B:=o2.at;have wA:WoP H2 H.length 1000 ⟨u,l,x1,n1,x2,n2,x3,n3⟩:=(o1.mono p2).pc.wo A hs;have wB:WoP H2 H.length 1000 ⟨u,l,y1,n1,y2,n2,y3,n3⟩:=(o2.pc.wo B hs).base p1.length_le;have onA:∀ m,(⟨u,l,x1,n1,x2,n2,x3,n3⟩:PC).on m→H.length≤m∧m < H1.length:=fun m hm=>⟨o1.fresh m hm,PC.at.lt (c:=⟨u,l,x1,n1,x2,n2,x3,n3⟩) o1.at hm⟩;have onB:∀ m,(⟨u,l,y1,n1,y2,n2,y3,n3⟩:PC).on m→H1.length≤m:=o2.fresh;have hp1:=p1.length_le;cases l with
 | true=>
  have hv:=hL hl;rw[oc_,ae_];refine ab_ (by simp) (ab_ (by simp; omega) ?_);rw[ae_];refine ab_ (by simp) (ab_ (by simp; omega) ?_);rw[ae_];refine ab_ (by simp) (ab_ (by simp; omega) ?_);have eA:hd_ p k=⟨p.used,true,p.keys.take k,p.vals.take k,p.kids⟩:=by unfold hd_; rw[hl]
  have eB:gR_ p k=⟨p.used,true,p.keys.drop k,p.vals.drop k,p.kids⟩:=by unfold gR_; rw[hl]
  rw[Nat.sub_zero];refine hQ ⟨u,true,shf x1 0,k,shf x2 0,k,x3,n3⟩ ⟨u,true,shf y1 k,n1 - k,shf y2 k,n2 - k,y3,n3⟩ H2 (p1.trans p2) ?_ ?_ ?_ ?_ ?_ ?_
  ·rw[eA];have q1:=A.keys.part 0 k (by omega);have q2:=A.vals.part 0 k (by omega);rw[drop_zero] at q1 q2;exact⟨hu,rfl,q1,q2,A.kids⟩
  ·rw[eB];have q1:=B.keys.part k (n1 - k) (by omega);have q2:=B.vals.part k (n2 - k) (by omega);rw[take_of_length_le (by simp; omega)] at q1 q2;exact⟨hu,rfl,q1,q2,B.kids⟩
  ·exact⟨wA.t1.part 0 k (by show 0+k≤n1; omega),wA.t2.part 0 k (by show 0+k≤n2; omega),wA.t3,by show k≤1000; omega,by show k≤1000; omega,wA.s3⟩
  ·exact⟨wB.t1.part k _ (by show k+(n1 - k)≤n1; omega),wB.t2.part k _ (by show k+(n2 - k)≤n2; omega),wB.t3,by show n1 - k≤1000; omega,by show n2 - k≤1000; omega,wB.s3⟩
  ·intro m' hm';obtain⟨o',q⟩:=hm';have hA:(⟨u,true,x1,n1,x2,n2,x3,n3⟩:PC).on m':=by
    rcases q with q | q | q
    ·obtain⟨o'',q⟩:=iT_ q; exact⟨o'',.inl q⟩
    ·obtain⟨o'',q⟩:=iT_ q; exact⟨o'',.inr (.inl q)⟩
    ·exact⟨o',.inr (.inr q)⟩
   have:=onA m' hA;refine⟨this.1,fun hd=> ?_⟩;obtain⟨o',q⟩:=hd;have hB:(⟨u,true,y1,n1,y2,n2,y3,n3⟩:PC).on m':=by
    rcases q with q | q | q
    ·obtain⟨o'',q⟩:=iT_ q; exact⟨o'',.inl q⟩
    ·obtain⟨o'',q⟩:=iT_ q; exact⟨o'',.inr (.inl q)⟩
    ·exact⟨o',.inr (.inr q)⟩
   have:=onB m' hB;omega
  ·intro m' hm';obtain⟨o',q⟩:=hm';have hB:(⟨u,true,y1,n1,y2,n2,y3,n3⟩:PC).on m':=by
    rcases q with q | q | q
    ·obtain⟨o'',q⟩:=iT_ q; exact⟨o'',.inl q⟩
    ·obtain⟨o'',q⟩:=iT_ q; exact⟨o'',.inr (.inl q)⟩
    ·exact⟨o',.inr (.inr q)⟩
   have:=onB m' hB;omega
 | false=>
  have hv:=hI hl;rw[gm_,an_ (by omega)];have etN1:tN ((k+1:Nat):Int)=k+1:=rfl;rw[ae_];refine ab_ (by simp; omega) (ab_ (by simp; omega) ?_);rw[ae_];refine ab_ (by simp; omega) (ab_ (by simp; omega) ?_);rw[ae_];refine ab_ (by simp; omega) (ab_ (by simp; omega) ?_);have eA:hd_ p k=⟨p.used,false,p.keys.take k,p.vals,p.kids.take (k+1)⟩:=by unfold hd_; rw[hl]
  have eB:gR_ p k=⟨p.used,false,p.keys.drop (k+1),p.vals,p.kids.drop (k+1)⟩:=by unfold gR_; rw[hl]
  rw[etN1,Nat.mul_one,Nat.sub_zero,Nat.sub_zero];refine hQ ⟨u,false,shf x1 0,k,x2,n2,shf x3 0,k+1⟩ ⟨u,false,shf y1 (k+1),n1 - (k+1),y2,n2,shf y3 (k+1),n3 - (k+1)⟩ H2 (p1.trans p2) ?_ ?_ ?_ ?_ ?_ ?_
  ·rw[eA];have q1:=A.keys.part 0 k (by omega);have q2:=A.kids.part' 0 (k+1) (by omega);rw[drop_zero] at q1 q2;exact⟨hu,rfl,q1,A.vals,q2⟩
  ·rw[eB];have q1:=B.keys.part (k+1) (n1 - (k+1)) (by omega);have q2:=B.kids.part' (k+1) (n3 - (k+1)) (by omega);rw[take_of_length_le (by simp; omega)] at q1 q2;exact⟨hu,rfl,q1,B.vals,q2⟩
  ·exact⟨wA.t1.part 0 k (by show 0+k≤n1; omega),wA.t2,wA.t3.part 0 (k+1) (by show 0+(k+1)≤n3; omega),by show k≤1000; omega,wA.s2,by show k+1≤1000; omega⟩
  ·exact⟨wB.t1.part (k+1) _ (by show k+1+(n1 - (k+1))≤n1; omega),wB.t2,wB.t3.part (k+1) _ (by show k+1+(n3 - (k+1))≤n3; omega),by show n1 - (k+1)≤1000; omega,wB.s2,by show n3 - (k+1)≤1000; omega⟩
  ·intro m' hm';obtain⟨o',q⟩:=hm';have hA:(⟨u,false,x1,n1,x2,n2,x3,n3⟩:PC).on m':=by
    rcases q with q | q | q
    ·obtain⟨o'',q⟩:=iT_ q; exact⟨o'',.inl q⟩
    ·exact⟨o',.inr (.inl q)⟩
    ·obtain⟨o'',q⟩:=iT_ q; exact⟨o'',.inr (.inr q)⟩
   have:=onA m' hA;refine⟨this.1,fun hd=> ?_⟩;obtain⟨o',q⟩:=hd;have hB:(⟨u,false,y1,n1,y2,n2,y3,n3⟩:PC).on m':=by
    rcases q with q | q | q
    ·obtain⟨o'',q⟩:=iT_ q; exact⟨o'',.inl q⟩
    ·exact⟨o',.inr (.inl q)⟩
    ·obtain⟨o'',q⟩:=iT_ q; exact⟨o'',.inr (.inr q)⟩
   have:=onB m' hB;omega
  ·intro m' hm';obtain⟨o',q⟩:=hm';have hB:(⟨u,false,y1,n1,y2,n2,y3,n3⟩:PC).on m':=by
    rcases q with q | q | q
    ·obtain⟨o'',q⟩:=iT_ q; exact⟨o'',.inl q⟩
    ·exact⟨o',.inr (.inl q)⟩
    ·obtain⟨o'',q⟩:=iT_ q; exact⟨o'',.inr (.inr q)⟩
   have:=onB m' hB;omega
theorem pE_ {xs:List ByteArray} {l n i:Nat} (hr:js_ H l xs) (hn:xs.length=n) (hi:i < n) (hl:n≤1000000) (hQ:Q (.g (.sl (some (l,0)) (n - 1) 1)) (H.set l (.row true tS ((xs.eraseIdx i++[mkS []]).map GV.str)))):
 aS_ [.g (.sl (some (l,0)) n 1),.g (.int .i64 (i:Int)),.g (.int .i64 ((i+1:Nat):Int))] H Q:=by
 have hlt:=(kC.1 hr).1;refine⟨1,?_⟩;rw[hJ_];have e0:tN (i:Int)=i:=rfl;have e1:tN ((i+1:Nat):Int)=i+1:=rfl;have e2:tN (nI n)=n:=rfl;rw[ae_];refine ab_ (by simp) (ab_ (by simp; omega) (ab_ (by simp) (ab_ ?_ ?_)))
 ·rw[e0,e1,e2];simp [oT_,hr,hn];omega
 rw[aD_ (by simp; omega),ae_];refine ab_ (by simp) (ab_ (by simp; omega) ?_);rw[ae_];refine ab_ (by simp; omega) (ab_ (by simp; omega) ?_);rw[ae_,e0,e1];have hc:cells? H (shf (some (l,0)) ((i+1)*1)) ((n - (i+1))*1)=some ((xs.drop (i+1)).map GV.str):=by
  have h0:cells? H (some (l,0)) n=some (xs.map GV.str):=by simp [cells?,hr,hn]; exact take_of_length_le (by simp [hn])
  have:=h1_ h0 (i+1) (n - (i+1)) (by omega);rw[Nat.mul_one,Nat.mul_one,this,take_of_length_le (by simp; omega),map_drop]
 rw[dX_ hc,ae_];have hap:app? H tS 1 16 (shf (some (l,0)) 0) (i - 0) ((xs.drop (i+1)).map GV.str) (n - (i+1))=some (some (l,0),n - 1,H.set l (.row true tS ((xs.eraseIdx i++[xs[n - 1]'(by omega)]).map GV.str))):=by
  unfold app?;rw[if_pos ⟨by unfold Lim; omega,by simp; omega⟩];simp only[shf,hr,kQ,Nat.sub_zero,Nat.mul_one];rw[if_neg (by simp; omega),if_pos (by simp; omega)];have ex:List.take (0+i) (xs.map GV.str)++(xs.drop (i+1)).map GV.str++drop (0+(i+(n - (i+1)))) (xs.map GV.str)=(xs.eraseIdx i++[xs[n - 1]'(by omega)]).map GV.str:=by
   rw[←map_take,←map_drop,←kL,←kL,kN,kN,show i+(n - (i+1))=n - 1 by omega,eraseIdx_eq_take_drop_succ];congr 2;rw[drop_eq_getElem_cons (by omega),drop_of_length_le (by omega)]
  rw[ex,show i+(n - (i+1))=n - 1 by omega]
 unfold ap;rw[hap];simp only;have e3:tN (nI (n - 1))=n - 1:=rfl;have hlen:(xs.eraseIdx i).length=n - 1:=by rw[length_eraseIdx]; rw[if_pos (by omega)]; omega
 have hrow:(H.set l (.row true tS ((xs.eraseIdx i++[xs[n - 1]'(by omega)]).map GV.str)))[l]? =some (.row true tS ((xs.eraseIdx i++[xs[n - 1]'(by omega)]).map GV.str)):=kH hlt;rw[ae_];refine ab_ (by simp) (ab_ (by simp) (ab_ ?_ ?_))
 ·rw[e2,e3];simp [mM_,hlt,hlen];omega
 rw[ae_,e2,e3,show n - (n - 1)=1 by omega];show clr _ (some (l,0+(n - 1)*1)) 1 [.str (mkS [])] _;unfold clr;simp only[hrow];refine⟨by simp [hlen],?_⟩;rw[set_set];have ex:List.take (0+(n - 1)*1) ((xs.eraseIdx i++[xs[n - 1]'(by omega)]).map GV.str)++(replicate (0+1) [GV.str (mkS [])]).flatten++drop (0+(n - 1)*1+(0+1)*[GV.str (mkS [])].length) ((xs.eraseIdx i++[xs[n - 1]'(by omega)]).map GV.str)=(xs.eraseIdx i++[mkS []]).map GV.str:=by
  rw[drop_of_length_le (by simp [hlen]),append_nil,kN,Nat.mul_one,kL,List.take_left' (by simp [hlen])];simp
 rw[ex];exact hQ
theorem B7_ {xs:List Int} {l n i:Nat} (hr:pL_ H l xs) (hn:xs.length=n) (hi:i < n) (hl:n≤1000000) (hQ:Q (.g (.sl (some (l,0)) (n - 1) 1)) (H.set l (.row true tI ((xs.eraseIdx i++[0]).map (GV.int .i64))))):
 b5_ [.g (.sl (some (l,0)) n 1),.g (.int .i64 (i:Int)),.g (.int .i64 ((i+1:Nat):Int))] H Q:=by
 have hlt:=(kC.1 hr).1;refine⟨1,?_⟩;rw[ka_];have e0:tN (i:Int)=i:=rfl;have e1:tN ((i+1:Nat):Int)=i+1:=rfl;have e2:tN (nI n)=n:=rfl;rw[ae_];refine ab_ (by simp) (ab_ (by simp; omega) (ab_ (by simp) (ab_ ?_ ?_)))
 ·rw[e0,e1,e2];simp [oT_,hr,hn];omega
 rw[aD_ (by simp; omega),ae_];refine ab_ (by simp) (ab_ (by simp; omega) ?_);rw[ae_];refine ab_ (by simp; omega) (ab_ (by simp; omega) ?_);rw[ae_,e0,e1];have hc:cells? H (shf (some (l,0)) ((i+1)*1)) ((n - (i+1))*1)=some ((xs.drop (i+1)).map (GV.int .i64)):=by
  have h0:cells? H (some (l,0)) n=some (xs.map (GV.int .i64)):=by simp [cells?,hr,hn]; exact take_of_length_le (by simp [hn])
  have:=h1_ h0 (i+1) (n - (i+1)) (by omega);rw[Nat.mul_one,Nat.mul_one,this,take_of_length_le (by simp; omega),map_drop]
 rw[dX_ hc,ae_];have hap:app? H tI 1 8 (shf (some (l,0)) 0) (i - 0) ((xs.drop (i+1)).map (GV.int .i64)) (n - (i+1))=some (some (l,0),n - 1,H.set l (.row true tI ((xs.eraseIdx i++[xs[n - 1]'(by omega)]).map (GV.int .i64)))):=by
  unfold app?;rw[if_pos ⟨by unfold Lim; omega,by simp; omega⟩];simp only[shf,hr,kQ,Nat.sub_zero,Nat.mul_one];rw[if_neg (by simp; omega),if_pos (by simp; omega)];have ex:List.take (0+i) (xs.map (GV.int .i64))++(xs.drop (i+1)).map (GV.int .i64)++drop (0+(i+(n - (i+1)))) (xs.map (GV.int .i64))=(xs.eraseIdx i++[xs[n - 1]'(by omega)]).map (GV.int .i64):=by
   rw[←map_take,←map_drop,←kL,←kL,kN,kN,show i+(n - (i+1))=n - 1 by omega,eraseIdx_eq_take_drop_succ];congr 2;rw[drop_eq_getElem_cons (by omega),drop_of_length_le (by omega)]
  rw[ex,show i+(n - (i+1))=n - 1 by omega]
 unfold ap;rw[hap];simp only;have e3:tN (nI (n - 1))=n - 1:=rfl;have hlen:(xs.eraseIdx i).length=n - 1:=by rw[length_eraseIdx]; rw[if_pos (by omega)]; omega
 have hrow:(H.set l (.row true tI ((xs.eraseIdx i++[xs[n - 1]'(by omega)]).map (GV.int .i64))))[l]? =some (.row true tI ((xs.eraseIdx i++[xs[n - 1]'(by omega)]).map (GV.int .i64))):=kH hlt;rw[ae_];refine ab_ (by simp) (ab_ (by simp) (ab_ ?_ ?_))
 ·rw[e2,e3];simp [mM_,hlt,hlen];omega
 rw[ae_,e2,e3,show n - (n - 1)=1 by omega];show clr _ (some (l,0+(n - 1)*1)) 1 [.int .i64 0] _;unfold clr;simp only[hrow];refine⟨by simp [hlen],?_⟩;rw[set_set];have ex:List.take (0+(n - 1)*1) ((xs.eraseIdx i++[xs[n - 1]'(by omega)]).map (GV.int .i64))++(replicate (0+1) [GV.int .i64 0]).flatten++drop (0+(n - 1)*1+(0+1)*[GV.int .i64 0].length) ((xs.eraseIdx i++[xs[n - 1]'(by omega)]).map (GV.int .i64))=(xs.eraseIdx i++[0]).map (GV.int .i64):=by
  rw[drop_of_length_le (by simp [hlen]),append_nil,kN,Nat.mul_one,kL,List.take_left' (by simp [hlen])];simp
 rw[ex];exact hQ
end
end Go.Am
end
namespace Go.Am
open List
section
variable {R R':Nat→List Nat→KV→Prop}
def qF_ (R:Nat→List Nat→KV→Prop):List Int→List ByteArray→List Nat→KV→Prop
 | [],[],P,ps=>P=[]∧ps=[]
 | k::ks,s::ss,P,ps=>∃ P1 ps1 P2 ps2,R k.toNat P1 ps1∧qF_ R ks ss P2 ps2∧P=P1++P2∧ps=ps1++ps2∧(∀ x∈ps1,blt x.1 s=true)∧(∀ y∈ps2,blt y.1 s=false)
 | [],_::_,_,_=>False
 | _::_,[],_,_=>False
def sT_ (R:Nat→List Nat→KV→Prop) (kc:List Int) (sc:List ByteArray) (P:List Nat) (ps:KV):Prop:=match sc with
 | []=>kc=[]∧P=[]∧ps=[]
 | s::sc=>bN_ R kc sc P ps∧∀ y∈ps,blt y.1 s=false
theorem bN_.split:∀ {ka:List Int} {sa:List ByteArray} {P:List Nat} {ps:KV},ka.length=sa.length→rest≠[]→bN_ R (ka++rest) (sa++ss) P ps→
 ∃ F r G A,qF_ R ka sa F r∧bN_ R rest ss G A∧P=F++G∧ps=r++A∧∀ s∈sa,∀ y∈A,blt y.1 s=false
 | [],[],P,ps,_,_,h=>⟨[],[],P,ps,⟨rfl,rfl⟩,h,rfl,rfl,fun s hs=>by grind⟩
 | k::ka,s::sa,P,ps,hl,O,h=>by
  have ⟨J,D,G,A,Z,W,U,e2,N,h4⟩:=h;have ⟨F,r,V,I,q1,q2,q3,q4,q5⟩:=bN_.split (by grind) O W;subst U; subst e2; subst q3; subst q4;refine⟨J++F,D++r,V,I,⟨J,D,F,r,Z,q1,rfl,rfl,N,fun y Y=>h4 y (by grind)⟩,q2,by simp,by simp,fun t ht y Y=> ?_⟩;grind
theorem qF_.glue:∀ {ka:List Int} {sa:List ByteArray} {I:List Nat} {r:KV},qF_ R ka sa I r→bN_ R rest ss J A→(∀ s∈sa,∀ y∈A,blt y.1 s=false)→
 bN_ R (ka++rest) (sa++ss) (I++J) (r++A)
 | [],[],_,_,h,D,_=>by rw[h.1,h.2]; exact D
 | k::ka,s::sa,I,r,h,D,N=>by
  have ⟨V,G,U,F,q1,Y,O,W,Z,q4⟩:=h;subst O; subst W;refine⟨V,G,U++J,F++A,q1,qF_.glue Y D (fun t ht=>N t (by grind)),by simp,by simp,Z,fun y hy=> ?_⟩;grind
theorem qF_.imp:∀ {ka:List Int} {sa:List ByteArray} {P:List Nat} {ps:KV},(∀ k P' r,R k P' r→(∀ i∈P',i∈P)→R' k P' r)→qF_ R ka sa P ps→qF_ R' ka sa P ps
 | [],[],_,_,_,h=>h
 | k::ka,s::sa,P,ps,f,⟨V,A,J,F,U,O,N,Y,G,W⟩=>by
  subst N;exact⟨V,A,J,F,f _ _ _ U fun i D=>kD.2 (.inl D),qF_.imp (fun k P' r h I=>f k P' r h fun i D=>kD.2 (.inr (I i D))) O,rfl,Y,G,W⟩
theorem qF_.lt:∀ {ka:List Int} {sa:List ByteArray} {P:List Nat} {ps:KV},qF_ R ka sa P ps→∀ x∈ps,∃ s∈sa,blt x.1 s=true
 | [],[],_,_,h,x,r=>by rw[h.2] at r; cases r
 | k::ka,s::sa,P,ps,⟨U,D,J,F,O,A,N,G,I,V⟩,x,r=>by
  subst G;rcases kD.1 r with e | e
  ·grind
  ·have ⟨t,W,q⟩:=qF_.lt A x e;grind
theorem sT_.imp (f:∀ k P' r,R k P' r→(∀ i∈P',i∈P)→R' k P' r) (h:sT_ R kc A P ps):sT_ R' kc A P ps:=by
 cases A with
 | nil=>exact h
 | cons s A=>exact⟨bN_.imp f h.1,h.2⟩
theorem sT_.ge (h:sT_ R kc A P ps):∀ y∈ps,∃ s∈A,blt y.1 s=false:=by
 cases A with
 | nil=>intro y r; rw[h.2.2] at r; cases r
 | cons s A=>intro y r; exact⟨s,by simp,h.2 y r⟩
theorem bN_.head (h:bN_ R (k::kc) D P ps):
 ∃ F r PC A,R k.toNat F r∧sT_ R kc D PC A∧P=F++PC∧ps=r++A∧∀ s,D.head? =some s→∀ x∈r,blt x.1 s=true:=by
 cases D with
 | nil=>exact⟨P,ps,[],[],h.2,⟨h.1,rfl,rfl⟩,by simp,by simp,fun s e=>by cases e⟩
 | cons s D=>
  have ⟨F,r,U,G,J,I,V,O,W,N⟩:=h;exact⟨F,r,U,G,J,⟨I,N⟩,V,O,fun t e=>by grind⟩
theorem sT_.glue {G PC:List Nat} (I:R k.toNat G r) (F:sT_ R kc D PC A) (J:∀ s,D.head? =some s→∀ x∈r,blt x.1 s=true):bN_ R (k::kc) D (G++PC) (r++A):=by
 cases D with
 | nil=>
  have ⟨O,U,N⟩:=F;subst O; subst U; subst N;rw[append_nil,append_nil];exact⟨rfl,I⟩
 | cons s D=>exact⟨G,r,PC,A,I,F.1,rfl,rfl,J s rfl,F.2⟩
theorem bN_.join:∀ {ka:List Int} {sa:List ByteArray} {D:List Nat} {r:KV},bN_ R ka sa D r→bN_ R kb sb I A→(∀ x∈r,blt x.1 s=true)→(∀ y∈A,blt y.1 s=false)→(∀ t∈sa,blt t s=true)→
 bN_ R (ka++kb) (sa++s::sb) (D++I) (r++A)
 | [],_,_,_,h,_,_,_,_=>h.elim
 | k::ka,[],D,r,h,J,G,F,_=>by
  obtain⟨e,h⟩:=h;subst e;exact⟨D,r,I,A,h,J,rfl,rfl,G,F⟩
 | k::ka,t::sa,D,r,h,J,G,F,U=>by
  have ⟨Y,N,V,O,q1,q2,W,e2,q3,q4⟩:=h;subst W; subst e2;refine⟨Y,N,V++I,O++A,q1,bN_.join q2 J (fun x hx=>G x (by grind)) F (fun u hu=>U u (by grind)),by simp,by simp,q3,fun y Z=> ?_⟩;rcases kD.1 Z with e | e
  ·grind
  ·exact xw_ (et_ (U t (by simp))) (F y e)
theorem bN_.cut {s:ByteArray} (J:kb≠[]):∀ {ka:List Int} {sa:List ByteArray} {P:List Nat} {ps:KV},ka.length=sa.length+1→bN_ R (ka++kb) (sa++s::sb) P ps→(∀ t∈sa,blt t s=true)→
 ∃ F A G D,bN_ R ka sa F A∧bN_ R kb sb G D∧P=F++G∧ps=A++D∧(∀ x∈A,blt x.1 s=true)∧(∀ y∈D,blt y.1 s=false)
 | [],_,_,_,V,_,_=>by grind
 | [k],[],P,ps,_,h,_=>by
  obtain⟨F,A,G,D,h1,h2,N,O,h3,h4⟩:=h;exact⟨F,A,G,D,⟨rfl,h1⟩,h2,N,O,h3,h4⟩
 | k::k'::ka,[],_,_,V,_,_=>by grind
 | k::ka,t::sa,P,ps,V,h,U=>by
  obtain⟨W,I,Q2,qs2,q1,q2,N,O,Y,q4⟩:=h;have ⟨F,A,G,D,Z,r2,f1,f2,r3,r4⟩:=bN_.cut J (by grind) q2 (fun u hu=>U u (by grind));subst N; subst O; subst f1; subst f2;refine⟨W++F,I++A,G,D,⟨W,I,F,A,q1,Z,rfl,rfl,Y,fun y hy=>q4 y (by grind)⟩,r2,by simp,by simp,fun x hx=> ?_,r4⟩;rcases kD.1 hx with e | e
  ·exact kE_ (Y x e) (et_ (U t (by simp)))
  ·grind
theorem i2_ (A:∀ k P ps,R k P ps→ps≠[]):∀ {ks:List Int} {ss:List ByteArray} {P:List Nat} {ps:KV},bN_ R ks ss P ps→(∀ e∈ps,blt e.1 s=true)→ps≠[]∧∀ t∈ss,blt t s=true
 | [],_,_,_,h,_=>h.elim
 | k::ks,[],P,ps,h,r=>⟨A _ _ _ h.2,fun t ht=>by grind⟩
 | k::ks,t::ss,P,ps,⟨P1,I,W,N,Z,G,Y,U,V,O⟩,r=>by
  subst U;have ⟨D,ih⟩:=i2_ A G fun e he=>r e (by grind);refine⟨by simp [D],fun u F=> ?_⟩;rcases mem_cons.1 F with q | q
  ·subst q;have ⟨y,J⟩:=exists_mem_of_ne_nil _ D;exact rK_ (O y J) (r y (by grind))
  ·grind
theorem qn_ (A:∀ k P ps,R k P ps→ps≠[]):∀ {ks:List Int} {ss:List ByteArray} {P:List Nat} {ps:KV},bN_ R ks ss P ps→(∀ e∈ps,blt e.1 s=false)→∀ t∈ss,blt s t=true
 | [],_,_,_,h,_=>h.elim
 | k::ks,[],P,ps,h,r=>fun t ht=>by grind
 | k::ks,t::ss,P,ps,⟨W,I,U,O,J,G,V,Z,D,Y⟩,r=>fun u F=>by
  rcases mem_cons.1 F with q | q
  ·subst q;have ⟨x,N⟩:=exists_mem_of_ne_nil _ (A _ _ _ J);exact rK_ (r x (by grind)) (D x N)
  ·exact qn_ A G (fun e he=>r e (by grind)) u q
theorem yd_ (A:∀ k P ps,R k P ps→k∈P):∀ {ks:List Int} {ss:List ByteArray} {P:List Nat} {ps:KV},bN_ R ks ss P ps→∀ k∈ks,k.toNat∈P
 | [],_,_,_,h,_,U=>by grind
 | k::ks,[],P,ps,h,j,r=>by
  rw[h.1] at r;rw[mem_singleton.1 r]; exact A _ _ _ h.2
 | k::ks,t::ss,P,ps,⟨V,G,N,I,O,F,D,Y,J,W⟩,j,r=>by
  subst D;rcases mem_cons.1 r with q | q
  ·grind
  ·exact kD.2 (.inr (yd_ A F j q))
end
def il_:KV→ByteArray→KV
 | [],_=>[]
 | x::ps,k=>match decide (x.1=k) with
  | true=>ps
  | false=>x::il_ ps k
theorem BC_ {L R:KV} (h:∀ x∈L,x.1≠k):il_ (L++(k,v)::R) k=L++R:=by
 induction L with
 | nil=>simp [il_]
 | cons x L r=>
  show (match decide (x.1=k) with | true=>L++(k,v)::R | false=>x::il_ (L++(k,v)::R) k)=_;grind
theorem DE_ (h:∃ x∈ps,x.1=k):il_ (ps++qs) k=il_ ps k++qs:=by
 induction ps with
 | nil=>have ⟨x,A,_⟩:=h; cases A
 | cons x ps r=>
  show (match decide (x.1=k) with | true=>ps++qs | false=>x::il_ (ps++qs) k)=(match decide (x.1=k) with | true=>ps | false=>x::il_ ps k)++qs;by_cases e:x.1=k
  ·grind
  ·rw[decide_eq_false e];have ⟨y,D,q⟩:=h;rcases mem_cons.1 D with z | z
   ·grind
   ·rw[r ⟨y,z,q⟩]; rfl
theorem BA_ (h:∀ x∈ps,x.1≠k):il_ (ps++qs) k=ps++il_ qs k:=by
 induction ps with
 | nil=>rfl
 | cons x ps r=>
  show (match decide (x.1=k) with | true=>ps++qs | false=>x::il_ (ps++qs) k)=_;grind
theorem FJ_:∀ {x},x∈il_ ps k→x∈ps:=by
 induction ps with
 | nil=>intro x r; cases r
 | cons y ps A=>
  intro x r;have r:x∈(match decide (y.1=k) with | true=>ps | false=>y::il_ ps k):=r;grind
theorem vi_:∀ {ss:List ByteArray},Pw ss→(∀ s∈ss.take (eq_ ss key),blt key s=false)∧(∀ s∈ss.drop (eq_ ss key),blt key s=true)∧eq_ ss key≤ss.length
 | [],_=>by simp [eq_,DZ_,DH_]
 | s::ss,D=>by
  have F:=(pairwise_cons.1 D).2;have A:=(pairwise_cons.1 D).1;have ⟨U,O,N⟩:=vi_ (key:=key) F;cases h:blt s key with
  | true=>
   have e:eq_ (s::ss) key=eq_ ss key+1:=by
    unfold eq_; rw[(lC_ h).1,(lC_ h).2]; omega
   rw[e];refine⟨fun t r=> ?_,by grind,by simpa using N⟩;rcases mem_cons.1 r with q | q
   ·rw[q]; exact et_ h
   ·grind
  | false=>
   have ⟨I,G⟩:=ki_ D h;by_cases q:s=key
   ·have e:eq_ (s::ss) key=1:=by unfold eq_; rw[I,G,decide_eq_true q]; rfl
    grind
   ·have e:eq_ (s::ss) key=0:=by unfold eq_; rw[I,G,decide_eq_false q]; rfl
    rw[e];have J:blt key s=true:=by
     rcases hq_ s key with⟨z,_⟩ | ⟨z,_⟩ | ⟨z,_⟩
     ·grind
     ·grind
     ·exact z
    refine⟨fun t r=>by grind,fun t r=> ?_,by simp⟩;simp at r;rcases r with z | z
    ·grind
    ·exact kE_ J (et_ (A t z))
end Go.Am
namespace Go.Am
open List
section
variable {T T':List Pg} {d a x y:Nat} {p px py:Pg} {s:ByteArray} {P PX PY:List Nat} {ps psX psY:KV}
theorem Bx_ (r:∀ k P ps,¬ R k P ps):∀ {ks:List Int} {ss:List ByteArray} {P:List Nat} {ps:KV},¬ bN_ R ks ss P ps
 | [],_,_,_,h=>h
 | k::ks,[],_,_,h=>r _ _ _ h.2
 | k::ks,s::ss,_,_,⟨G,D,I,A,F,_⟩=>r _ _ _ F
theorem Sub.may (h:Sub T d a P ps) (A:T[a]? =some p):fS_ p:=by
 cases d with
 | zero=>exact h.elim
 | succ d=>have ⟨q,r,D,_⟩:=h; rw[A] at r; cases r; exact D
theorem Sub.leafD (h:Sub T d a P ps) (G:T[a]? =some p) (F:p.leaf=true):d=1∧P=[a]∧ps=p.keys.zip p.vals:=by
 cases d with
 | zero=>exact h.elim
 | succ d=>
  obtain⟨q,hq,hm,⟨e,r,D,A⟩ | ⟨r,_⟩⟩:=h
  ·grind
  ·grind
theorem Sub.innD (h:Sub T d a P ps) (F:T[a]? =some p) (I:p.leaf=false):∃ D P',d=D+2∧P=a::P'∧bN_ (ea_ T (D+1)) p.kids p.keys P' ps:=by
 cases d with
 | zero=>exact h.elim
 | succ d=>
  obtain⟨q,hq,hm,⟨e,G,A,r⟩ | ⟨G,P',A,r⟩⟩:=h
  ·grind
  ·rw[F] at hq; cases hq;cases d with
   | zero=>exact (Bx_ (fun k P ps h=>h.1.elim) r).elim
   | succ d=>exact⟨d,P',rfl,A,r⟩
theorem Sub.get (h:Sub T d a P ps):∃ p,T[a]? =some p:=by
 cases d with
 | zero=>exact h.elim
 | succ d=>have ⟨q,r,_⟩:=h; exact⟨q,r⟩
theorem Cw_ {ks vs:List ByteArray} (A:vs.length=ks.length) (h:k∈ks):∃ v,(k,v)∈ks.zip vs:=by
 have ⟨i,r,e⟩:=kK h;exact⟨vs[i]'(by omega),mem_iff_getElem.2 ⟨i,by grind,by simp [e]⟩⟩
theorem kX_ (I:Sub T d x PX psX) (D:Sub T d y PY psY) (F:T[x]? =some px) (A:T[y]? =some py):px.leaf=py.leaf:=by
 cases G:px.leaf<;>cases r:py.leaf
 ·rfl
 ·have ⟨J,_,e,_⟩:=I.innD F G;have:=(D.leafD A r).1;omega
 ·have ⟨J,_,e,_⟩:=D.innD A r;have:=(I.leafD F G).1;omega
 ·rfl
theorem xL_ (Z:Sub T d x PX psX) (hY:Sub T d y PY psY) (Y:T[x]? =some r) (hy:T[y]? =some py) (hnd:(PX++PY).Nodup) (hs:1≤s.size∧s.size≤6) (lt:∀ e∈psX,blt e.1 s=true) (ge:∀ e∈psY,blt e.1 s=false):
 k2_ (ay_ r s py):=by
 have G:=kX_ Z hY Y hy;have F:=Z.may Y;have J:=hY.may hy;cases D:r.leaf with
 | true=>
  rw[D] at G;obtain⟨-,-,ex⟩:=Z.leafD Y D;obtain⟨-,-,ey⟩:=hY.leafD hy G.symm;have ⟨x1,x2,x3⟩:=F.2.leaf D;have ⟨y1,y2,y3⟩:=J.2.leaf G.symm;have ej:ay_ r s py=⟨r.used,true,r.keys++py.keys,r.vals++py.vals,r.kids++py.kids⟩:=by unfold ay_; rw[D]
  rw[ej];refine⟨F.2.used,fs_ (pairwise_append.2 ⟨cV_ F.2.rising,cV_ J.2.rising,fun a O b V=> ?_⟩),fun k I=> ?_,fun _=>⟨by simp; omega,by grind,fun v hv=> ?_⟩,fun q=>by cases q⟩
  ·have ⟨v,hv⟩:=Cw_ x1 O;have ⟨w,hw⟩:=Cw_ y1 V;exact kE_ (lt _ (by rw[ex]; exact hv)) (ge _ (by rw[ey]; exact hw))
  ·rcases kD.1 I with q | q
   ·exact F.2.keys k q
   ·exact J.2.keys k q
  ·rcases kD.1 hv with q | q
   ·exact x3 v q
   ·exact y3 v q
 | false=>
  rw[D] at G;obtain⟨d',PX',ed,eX,kX⟩:=Z.innD Y D;obtain⟨d'',PY',ed',eY,kY⟩:=hY.innD hy G.symm;obtain rfl:d'=d'':=by omega
  obtain⟨x1,x2,x3,x4,x5⟩:=F.2.inner D;obtain⟨y1,y2,y3,y4,y5⟩:=J.2.inner G.symm;have ej:ay_ r s py=⟨r.used,false,r.keys++[s]++py.keys,r.vals++py.vals,r.kids++py.kids⟩:=by unfold ay_; rw[D]
  rw[ej];have U:∀ k P N,ea_ T (d'+1) k P N→N≠[]:=fun k P N h=>h.ne;have kl:=(i2_ U kX lt).2;have kg:=qn_ U kY ge;have W:∀ k P N,ea_ T (d'+1) k P N→k∈P:=fun k P N h=>h.1.head;refine⟨F.2.used,fs_ ?_,fun k I=> ?_,fun q=>(by cases q),fun _=>⟨by simp; omega,by simp [x2,y2],by simp; omega,fun k I=> ?_,?_⟩⟩
  ·rw[append_assoc];refine pairwise_append.2 ⟨cV_ F.2.rising,pairwise_cons.2 ⟨kg,cV_ J.2.rising⟩,fun a O b V=> ?_⟩;rcases mem_cons.1 V with q | q
   ·rw[q]; exact kl a O
   ·exact kE_ (kl a O) (et_ (kg b q))
  ·simp only[kD,mem_singleton] at I;rcases I with (q | q) | q
   ·exact F.2.keys k q
   ·rw[q]; exact hs
   ·exact J.2.keys k q
  ·rcases kD.1 I with q | q
   ·exact x4 k q
   ·exact y4 k q
  ·refine nodup_append.2 ⟨x5,y5,fun a O b V e=> ?_⟩;subst e;have i1:=yd_ W kX a O;have i2:=yd_ W kY a V;grind
theorem Fc_ (F:Sub T d x PX psX) (r:Sub T d y PY psY) (A:T[x]? =some px) (D:T[y]? =some py) (G:k2_ (ay_ px s py)):lE_ px s py↔(ay_ px s py).keys.length≤4:=
 ⟨fun h=>h.2.2.2.1,fun h=>⟨F.may A,r.may D,kX_ F r A D,h,G⟩⟩
theorem E6_ (Z:Sub T d x PX psX) (hY:Sub T d y PY psY) (Y:T[x]? =some r) (hy:T[y]? =some py) (G:(PX++PY).Nodup) (lt:∀ e∈psX,blt e.1 s=true) (ge:∀ e∈psY,blt e.1 s=false)
 (hm:fS_ (ay_ r s py)) (hT:∀ j∈PX++PY,j≠x→j≠y→T'[j]? =T[j]?) (O:T'[x]? =some (ay_ r s py)):
 ∃ N,Sub T' d x N (psX++psY)∧N.Nodup∧(∀ j∈N,j∈PX++PY)∧y∉N∧∀ j∈PX++PY,j≠y→j∈N:=by
 have hl:=kX_ Z hY Y hy;have mx:=Z.may Y;cases F:r.leaf with
 | true=>
  rw[F] at hl;have ⟨ed,eX,ex⟩:=Z.leafD Y F;obtain⟨-,eY,ey⟩:=hY.leafD hy hl.symm;have ⟨x1,x2,x3⟩:=mx.2.leaf F;have W:ay_ r s py=⟨r.used,true,r.keys++py.keys,r.vals++py.vals,r.kids++py.kids⟩:=by unfold ay_; rw[F]
  subst ed; subst eX; subst eY;have J:x≠y:=by simp at G; exact G
  refine⟨[x],⟨_,O,hm,.inl ⟨rfl,by rw[W],rfl,?_⟩⟩,by simp,by simp,by simp; exact fun q=>J q.symm,fun j hj I=> ?_⟩
  ·rw[W,ex,ey];exact (zip_append (by omega)).symm
  ·simp at hj; rcases hj with q | q
   ·simp [q]
   ·exact (I q).elim
 | false=>
  rw[F] at hl;obtain⟨d',U,ed,eX,kX⟩:=Z.innD Y F;obtain⟨d'',V,ed',eY,kY⟩:=hY.innD hy hl.symm;obtain rfl:d'=d'':=by omega
  have W:ay_ r s py=⟨r.used,false,r.keys++[s]++py.keys,r.vals++py.vals,r.kids++py.kids⟩:=by unfold ay_; rw[F]
  have I:∀ k P ps,ea_ T (d'+1) k P ps→ps≠[]:=fun k P ps h=>h.ne;have kl:=(i2_ I kX lt).2;subst ed; subst eX; subst eY;have nd:=nodup_append.1 G;have n1:=nodup_cons.1 nd.1;have n2:=nodup_cons.1 nd.2.1;have kJ:=bN_.join kX kY lt ge kl;have keep:∀ j∈U++V,T'[j]? =T[j]? :=fun j hj=>by
   grind
  have J:=fun e=>nd.2.2 x (by simp) y (by simp) e;refine⟨x::(U++V),⟨_,O,hm,.inr ⟨by rw[W],_,rfl,?_⟩⟩,?_,?_,?_,?_⟩
  ·rw[W,append_assoc];exact kJ.imp fun k Q qs h hin=>ea_.keep h fun j hj=>keep j (hin j hj)
  ·refine nodup_cons.2 ⟨fun q=> ?_,nodup_append.2 ⟨n1.2,n2.2,fun a ha b hb=>nd.2.2 a (by simp [ha]) b (by simp [hb])⟩⟩;rcases kD.1 q with q | q
   ·exact n1.1 q
   ·exact nd.2.2 x (by simp) x (by simp [q]) rfl
  ·intro j hj; simp at hj ⊢; rcases hj with q | q | q<;>simp [q]
  ·intro q;rcases mem_cons.1 q with q | q
   ·exact J q.symm
   ·rcases kD.1 q with q | q
    ·exact nd.2.2 y (by simp [q]) y (by simp) rfl
    ·exact n2.1 q
  ·intro j hj hne';simp at hj ⊢;rcases hj with q | q | q | q
   ·exact .inl q
   ·exact .inr (.inl q)
   ·omega
   ·exact .inr (.inr q)
theorem zH_ (ks vs:List ByteArray) (k:Nat):(ks.take k).zip (vs.take k)=(ks.zip vs).take k:=by simp [zip,take_zipWith]
theorem Ab_ (ks vs:List ByteArray) (k:Nat):(ks.drop k).zip (vs.drop k)=(ks.zip vs).drop k:=by simp [zip,drop_zipWith]
theorem xF_ (h:k2_ b) (O:k < b.keys.length) (U:1≤k):k2_ (hd_ b k):=by
 unfold hd_;cases F:b.leaf with
 | true=>
  have ⟨N,A,D⟩:=h.leaf F;exact⟨h.used,fs_ ((cV_ h.rising).sublist (take_sublist _ _)),fun q r=>h.keys q (mem_of_mem_take r),fun _=>⟨by simp; omega,A,fun v J=>D v (mem_of_mem_take J)⟩,fun q=>by grind⟩
 | false=>
  have ⟨N,A,D,I,G⟩:=h.inner F;exact⟨h.used,fs_ ((cV_ h.rising).sublist (take_sublist _ _)),fun q r=>h.keys q (mem_of_mem_take r),fun q=>(by grind),fun _=>⟨by simp; omega,A,by grind,fun q r=>I q (mem_of_mem_take r),G.sublist (take_sublist _ _)⟩⟩
theorem xP_ (h:k2_ b) (F:1≤(gR_ b k).keys.length):k2_ (gR_ b k):=by
 unfold gR_ at F ⊢;cases A:b.leaf with
 | true=>
  have ⟨O,D,G⟩:=h.leaf A;exact⟨h.used,fs_ ((cV_ h.rising).sublist (drop_sublist _ _)),fun q r=>h.keys q (mem_of_mem_drop r),fun _=>⟨by simp; omega,D,fun v N=>G v (mem_of_mem_drop N)⟩,fun q=>by grind⟩
 | false=>
  rw[A] at F;have ⟨O,D,G,J,I⟩:=h.inner A;exact⟨h.used,fs_ ((cV_ h.rising).sublist (drop_sublist _ _)),fun q r=>h.keys q (mem_of_mem_drop r),fun q=>(by grind),fun _=>⟨F,D,by grind,fun q r=>J q (mem_of_mem_drop r),I.sublist (drop_sublist _ _)⟩⟩
theorem GM_ {k:Nat} (hX:Sub T d x PX psX) (hY:Sub T d y PY psY) (hx:T[x]? =some px) (hy:T[y]? =some py) (hnd:(PX++PY).Nodup) (hs:1≤s.size∧s.size≤6) (lt:∀ e∈psX,blt e.1 s=true) (ge:∀ e∈psY,blt e.1 s=false)
 (hk:k < (ay_ px s py).keys.length) (h1:1≤k) (hk4:k≤4) (hR:1≤(gR_ (ay_ px s py) k).keys.length) (hR4:(gR_ (ay_ px s py) k).keys.length≤4)
 (hT:∀ j∈PX++PY,j≠x→j≠y→T'[j]? =T[j]?) (hx':T'[x]? =some (hd_ (ay_ px s py) k)) (hy':T'[y]? =some (gR_ (ay_ px s py) k)):
 ∃ PX' psX' PY' psY',Sub T' d x PX' psX'∧Sub T' d y PY' psY'∧psX'++psY'=psX++psY∧(PX'++PY').Nodup∧(∀ j,j∈PX'++PY'↔j∈PX++PY)∧(∀ e∈psX',blt e.1 (ay_ px s py).keys[k]=true)∧(∀ e∈psY',blt e.1 (ay_ px s py).keys[k]=false):=by
 have hl:=kX_ hX hY hx hy;have mx:=hX.may hx;have my:=hY.may hy;have hf:=xL_ hX hY hx hy hnd hs lt ge;have fL:=xF_ hf hk h1;have fR:=xP_ hf hR;have lenL:(hd_ (ay_ px s py) k).keys.length≤4:=by unfold hd_; cases (ay_ px s py).leaf<;>(simp; omega)
 have pwb:=cV_ hf.rising;have hsplit:(ay_ px s py).keys=(ay_ px s py).keys.take k++(ay_ px s py).keys[k]::(ay_ px s py).keys.drop (k+1):=by rw[getElem_cons_drop,take_append_drop]
 have ltk:∀ t∈(ay_ px s py).keys.take k,blt t (ay_ px s py).keys[k]=true:=fun t ht=>by
  rw[hsplit] at pwb;exact (pairwise_append.1 pwb).2.2 t ht _ mem_cons_self
 have gtk:∀ t∈(ay_ px s py).keys.drop (k+1),blt (ay_ px s py).keys[k] t=true:=fun t ht=>by
  rw[hsplit] at pwb;exact (pairwise_cons.1 (pairwise_append.1 pwb).2.1).1 t ht
 have nd:=nodup_append.1 hnd;cases h1':px.leaf with
 | true=>
  rw[h1'] at hl;obtain⟨ed,eX,ex⟩:=hX.leafD hx h1';obtain⟨-,eY,ey⟩:=hY.leafD hy hl.symm;obtain⟨x1,x2,x3⟩:=mx.2.leaf h1';have ej:ay_ px s py=⟨px.used,true,px.keys++py.keys,px.vals++py.vals,px.kids++py.kids⟩:=by unfold ay_; rw[h1']
  have ejl:(ay_ px s py).leaf=true:=by rw[ej]
  have ez:psX++psY=(ay_ px s py).keys.zip (ay_ px s py).vals:=by rw[ej,ex,ey]; exact (zip_append (by omega)).symm
  have eL:(hd_ (ay_ px s py) k).keys=(ay_ px s py).keys.take k∧(hd_ (ay_ px s py) k).vals=(ay_ px s py).vals.take k∧(hd_ (ay_ px s py) k).leaf=true:=by unfold hd_; rw[ejl]; exact⟨rfl,rfl,rfl⟩
  have eR:(gR_ (ay_ px s py) k).keys=(ay_ px s py).keys.drop k∧(gR_ (ay_ px s py) k).vals=(ay_ px s py).vals.drop k∧(gR_ (ay_ px s py) k).leaf=true:=by unfold gR_; rw[ejl]; exact⟨rfl,rfl,rfl⟩
  subst ed; subst eX; subst eY;refine⟨[x],_,[y],_,⟨_,hx',⟨lenL,fL⟩,.inl ⟨rfl,eL.2.2,rfl,rfl⟩⟩,⟨_,hy',⟨hR4,fR⟩,.inl ⟨rfl,eR.2.2,rfl,rfl⟩⟩,?_,hnd,fun j=>Iff.rfl,fun e he=> ?_,fun e he=> ?_⟩
  ·rw[eL.1,eL.2.1,eR.1,eR.2.1,zH_,Ab_,take_append_drop,ez]
  ·rw[eL.1] at he;exact ltk _ (if_ he).1
  ·rw[eR.1] at he;have:=(if_ he).1;rw[←getElem_cons_drop (h:=hk)] at this;rcases mem_cons.1 this with q | q
   ·rw[q]; exact cA_ _
   ·exact et_ (gtk _ q)
 | false=>
  rw[h1'] at hl;obtain⟨d',PX',ed,eX,kX⟩:=hX.innD hx h1';obtain⟨d'',PY',ed',eY,kY⟩:=hY.innD hy hl.symm;obtain rfl:d'=d'':=by omega
  have ej:ay_ px s py=⟨px.used,false,px.keys++[s]++py.keys,px.vals++py.vals,px.kids++py.kids⟩:=by unfold ay_; rw[h1']
  have ejl:(ay_ px s py).leaf=false:=by rw[ej]
  have hne:∀ k P ps,ea_ T (d'+1) k P ps→ps≠[]:=fun k P ps h=>h.ne;have kl:=(i2_ hne kX lt).2;have kJ:=bN_.join kX kY lt ge kl;have ekk:px.keys++s::py.keys=(ay_ px s py).keys:=by rw[ej]; simp
  have eki:px.kids++py.kids=(ay_ px s py).kids:=by rw[ej]
  obtain⟨g1,g2,g3,g4,g5⟩:=hf.inner ejl;rw[ekk,eki] at kJ;have eL:(hd_ (ay_ px s py) k).keys=(ay_ px s py).keys.take k∧(hd_ (ay_ px s py) k).kids=(ay_ px s py).kids.take (k+1)∧(hd_ (ay_ px s py) k).leaf=false:=by unfold hd_; rw[ejl]; exact⟨rfl,rfl,rfl⟩
  have eR:(gR_ (ay_ px s py) k).keys=(ay_ px s py).keys.drop (k+1)∧(gR_ (ay_ px s py) k).kids=(ay_ px s py).kids.drop (k+1)∧(gR_ (ay_ px s py) k).leaf=false:=by unfold gR_; rw[ejl]; exact⟨rfl,rfl,rfl⟩
  rw[hsplit,←take_append_drop (k+1) (ay_ px s py).kids] at kJ;obtain⟨P1,ps1,P2,ps2,c1,c2,e1,e2,c3,c4⟩:=bN_.cut (by intro q; have:=congrArg length q; simp at this; omega) (by simp; omega) kJ ltk;subst ed; subst eX; subst eY;have n1:=nodup_cons.1 nd.1;have n2:=nodup_cons.1 nd.2.1;have keep:∀ j∈P1++P2,T'[j]? =T[j]? :=fun j hj=>by
   rw[←e1] at hj;refine hT j (by simp at hj ⊢; rcases hj with q | q<;>simp [q]) (fun e=> ?_) (fun e=> ?_)
   ·subst e;rcases kD.1 hj with q | q
    ·exact n1.1 q
    ·exact nd.2.2 j (by simp) j (by simp [q]) rfl
   ·subst e;rcases kD.1 hj with q | q
    ·exact nd.2.2 j (by simp [q]) j (by simp) rfl
    ·exact n2.1 q
  have hxy:x≠y:=fun e=>nd.2.2 x (by simp) y (by simp) e;have nd12:(P1++P2).Nodup:=by rw[←e1]; exact nodup_append.2 ⟨n1.2,n2.2,fun a ha b hb=>nd.2.2 a (by simp [ha]) b (by simp [hb])⟩
  have nx:x∉P1++P2:=fun q=>by
   rw[←e1] at q;rcases kD.1 q with q | q
   ·exact n1.1 q
   ·exact nd.2.2 x (by simp) x (by simp [q]) rfl
  have ny:y∉P1++P2:=fun q=>by
   rw[←e1] at q;rcases kD.1 q with q | q
   ·exact nd.2.2 y (by simp [q]) y (by simp) rfl
   ·exact n2.1 q
  have m12:=nodup_append.1 nd12;refine⟨x::P1,ps1,y::P2,ps2,⟨_,hx',⟨lenL,fL⟩,.inr ⟨eL.2.2,P1,rfl,?_⟩⟩,⟨_,hy',⟨hR4,fR⟩,.inr ⟨eR.2.2,P2,rfl,?_⟩⟩,e2.symm,?_,fun j=> ?_,c3,c4⟩
  ·rw[eL.1,eL.2.1];exact c1.imp fun k Q qs h hin=>ea_.keep h fun j hj=>keep j (by simp [hin j hj])
  ·rw[eR.1,eR.2.1];exact c2.imp fun k Q qs h hin=>ea_.keep h fun j hj=>keep j (by simp [hin j hj])
  ·refine nodup_append.2 ⟨nodup_cons.2 ⟨fun q=>nx (by simp [q]),m12.1⟩,nodup_cons.2 ⟨fun q=>ny (by simp [q]),m12.2.1⟩,fun a ha b hb e=> ?_⟩;subst e;rcases mem_cons.1 ha with q | q
   ·subst q;rcases mem_cons.1 hb with z | z
    ·exact hxy z
    ·exact nx (by simp [z])
   ·rcases mem_cons.1 hb with z | z
    ·subst z; exact ny (by simp [q])
    ·exact m12.2.2 a q a z rfl
  ·have:j∈P1++P2↔j∈PX'++PY':=by rw[e1]
   simp only[kD,mem_cons] at this ⊢;constructor
   ·rintro ((q | q) | (q | q))
    ·exact .inl (.inl q)
    ·rcases this.1 (.inl q) with z | z
     ·exact .inl (.inr z)
     ·exact .inr (.inr z)
    ·exact .inr (.inl q)
    ·rcases this.1 (.inr q) with z | z
     ·exact .inl (.inr z)
     ·exact .inr (.inr z)
   ·rintro ((q | q) | (q | q))
    ·exact .inl (.inl q)
    ·rcases this.2 (.inl q) with z | z
     ·exact .inl (.inr z)
     ·exact .inr (.inr z)
    ·exact .inr (.inl q)
    ·rcases this.2 (.inr q) with z | z
     ·exact .inl (.inr z)
     ·exact .inr (.inr z)
end
end Go.Am
namespace Go.Am
open List
def uD_ (T:List Pg) (d short k:Nat) (P:List Nat) (ps:KV):Prop:=Sub T d k P ps∧∃ q,T[k]? =some q∧1≤q.keys.length∧(k≠short→2≤q.keys.length)
structure Dr2 (T T':List Pg) (d a:Nat) (P P':List Nat) (qs:KV):Prop where
 len:T'.length=T.length
 out:∀ j,j∉P→T'[j]? =T[j]?
 nd:P'.Nodup
 sub:∀ j∈P',j∈P
 gone:∀ j∈P,j∉P'→T'[j]? =some noPg
 pages:∃ p p',T[a]? =some p∧T'[a]? =some p'∧p'.leaf=p.leaf∧p.keys.length≤p'.keys.length+1∧
  (Sub T' d a P' qs∨(p'.leaf=false∧p'.keys=[]∧∃ k P'',1≤k∧k < 48∧p'.kids=[k]∧P'=a::P''∧ea_ T' (d - 1) k.toNat P'' qs))
section
variable {T T1 T2:List Pg} {D d a short:Nat} {p:Pg} {key:ByteArray} {P:List Nat} {ps:KV}
theorem Dk_ {ks vs:List ByteArray} (r:s < ks.length) (A:vs.length=ks.length):(ks.eraseIdx s).zip (vs.eraseIdx s)=(ks.zip vs).take s++(ks.zip vs).drop (s+1):=by
 rw[eraseIdx_eq_take_drop_succ,eraseIdx_eq_take_drop_succ,zip_append (by grind),zH_,Ab_]
def Hm_ (p:Pg) (s:Nat):Pg:=⟨p.used,p.leaf,p.keys.eraseIdx s,p.vals.eraseIdx s,p.kids⟩
theorem jh_ {α:Type} {l:List α} {x:α} (h:x∈l.eraseIdx i):x∈l:=(eraseIdx_sublist l i).mem h
theorem E7_ (h:fS_ p) (G:p.leaf=true) (J:s < p.keys.length):fS_ (Hm_ p s):=by
 have ⟨O,r,D⟩:=h.2.leaf G;have I:=h.1;refine⟨?_,h.2.used,fs_ ((cV_ h.2.rising).sublist (eraseIdx_sublist _ _)),fun k F=>h.2.keys k (jh_ F),fun _=>⟨?_,r,fun v A=>D v (jh_ A)⟩,fun q=> ?_⟩
 ·show (p.keys.eraseIdx s).length≤4;grind
 ·show (p.vals.eraseIdx s).length=(p.keys.eraseIdx s).length;grind
 ·have N:p.leaf=false:=q;grind
theorem DO_ (Z:Sub T d a P ps) (G:T[a]? =some p) (I:p.leaf=true) (D:∃ e∈ps,e.1=key):di_ p.keys key=true∧Dr2 T (T.set a (Hm_ p (ct_ p.keys key))) d a P P (il_ ps key):=by
 have J:=Z.may G;have ⟨e1,Y,W⟩:=Z.leafD G I;have ⟨O,f2,f3⟩:=J.2.leaf I;have pw:=cV_ J.2.rising;have V:di_ p.keys key=true:=by
  have ⟨e,he,q⟩:=D;rw[W] at he;exact qM_ pw (by rw[←q]; exact (if_ he).1)
 have ⟨N,hk⟩:=n5_ V;have A:=(kC.1 G).1;refine⟨V,by simp,fun j hj=> ?_,by rw[Y]; simp,fun j hj=>hj,fun j h1 h2=>(h2 h1).elim,p,_,G,kH A,rfl,?_,.inl ?_⟩
 ·grind
 ·show p.keys.length≤(p.keys.eraseIdx _).length+1;grind
 ·subst e1; subst Y;refine⟨_,kH A,E7_ J I N,.inl ⟨rfl,I,rfl,?_⟩⟩;show il_ ps key=(p.keys.eraseIdx _).zip (p.vals.eraseIdx _);rw[Dk_ N O,W];have U:=CY_ N O;rw[hk] at U;have r:=yh_ J.2.rising O;rw[Asc,U] at r;rw[U];have F:((p.keys.zip p.vals).take (ct_ p.keys key)).length=ct_ p.keys key:=by grind
  have e4:List.take (ct_ p.keys key) (List.take (ct_ p.keys key) (p.keys.zip p.vals)++(key,p.vals[ct_ p.keys key]'(by omega))::drop (ct_ p.keys key+1) (p.keys.zip p.vals))=List.take (ct_ p.keys key) (p.keys.zip p.vals):=List.take_left' F;have e5:drop (ct_ p.keys key+1) (List.take (ct_ p.keys key) (p.keys.zip p.vals)++(key,p.vals[ct_ p.keys key]'(by omega))::drop (ct_ p.keys key+1) (p.keys.zip p.vals))=drop (ct_ p.keys key+1) (p.keys.zip p.vals):=by
   grind
  rw[e4,e5];exact BC_ fun x hx=>lP_ ((pairwise_append.1 r).2.2 x hx _ mem_cons_self)
structure HT_ (T:List Pg) (d a:Nat) (p:Pg) (i:Nat) (key:ByteArray) (P:List Nat) (ps:KV) (PA:List Nat) (psA:KV) (Pi:List Nat) (psi:KV) (PC:List Nat) (psC:KV):Prop where
 hi:i < p.kids.length
 eP:P=a::(PA++(Pi++PC))
 eps:ps=psA++(psi++psC)
 pre:qF_ (ea_ T d) (p.kids.take i) (p.keys.take i) PA psA
 kid:ea_ T d (p.kids[i]'hi).toNat Pi psi
 suf:sT_ (ea_ T d) (p.kids.drop (i+1)) (p.keys.drop i) PC psC
 c1:∀ s∈p.keys.take i,∀ e∈psi++psC,blt e.1 s=false
 c2:∀ s,(p.keys.drop i).head? =some s→∀ e∈psi,blt e.1 s=true
 mem:(∃ e∈ps,e.1=key)→(∃ e∈psi,e.1=key)∧il_ ps key=psA++(il_ psi key++psC)
theorem xZ_ (hS:Sub T D a P ps) (V:T[a]? =some p) (Y:p.leaf=false):∃ d J G O A PC F,D=d+2∧HT_ T (d+1) a p (eq_ p.keys key) key P ps J G O A PC F:=by
 have hm:=hS.may V;obtain⟨d,P',ed,eP,kk⟩:=hS.innD V Y;obtain⟨f1,f2,f3,f4,f5⟩:=hm.2.inner Y;have pw:=cV_ hm.2.rising;have ⟨k1,k2,k3⟩:=vi_ (key:=key) pw;have Z:eq_ p.keys key < p.kids.length:=by omega
 have N:bN_ (ea_ T (d+1)) (p.kids.take (eq_ p.keys key)++p.kids.drop (eq_ p.keys key)) (p.keys.take (eq_ p.keys key)++p.keys.drop (eq_ p.keys key)) P' ps:=by simp_all
 obtain⟨J,G,P2,ps2,W,q2,e1,e2,q3⟩:=bN_.split (by simp; omega) (by simp; omega) N;rw[drop_eq_getElem_cons Z] at q2;obtain⟨O,A,PC,F,r1,r2,e3,e4,r3⟩:=q2.head;subst e1; subst e2; subst e3; subst e4;refine⟨d,J,G,O,A,PC,F,ed,Z,eP,rfl,W,r1,r2,q3,r3,fun hk=> ?_⟩;have nA:∀ x∈G,x.1≠key:=fun x U=>by
  have ⟨s,hs,z⟩:=W.lt x U;grind
 have nC:∀ x∈F,x.1≠key:=fun x U=>by
  obtain⟨s,hs,z⟩:=r2.ge x U;grind
 have I:∃ e∈A,e.1=key:=by
  grind
 exact⟨I,by rw[BA_ nA,DE_ I]⟩
section
variable {i:Nat} {PA Pi PC Pi':List Nat} {psA psi psC qs:KV}
theorem HT_.glue (h:HT_ T d a p i key P ps PA psA Pi psi PC psC) (hnd:P.Nodup) (N:∀ j,j∉Pi→T1[j]? =T[j]?) (V:Sub T1 d (p.kids[i]'h.hi).toNat Pi' qs) (hsub:∀ j∈Pi',j∈Pi) (hq:∀ e∈qs,e∈psi) (Y:T1[(p.kids[i]'h.hi).toNat]? =some q) (W:1≤q.keys.length):
 bN_ (uD_ T1 d (p.kids[i]'h.hi).toNat) p.kids p.keys (PA++(Pi'++PC)) (psA++(qs++psC)):=by
 have D:=hnd;rw[h.eP] at D;have n1:=(nodup_cons.1 D).2;have n2:=nodup_append.1 n1;have n3:=nodup_append.1 n2.2.1;have A:∀ {k:Nat} {Q:List Nat} {U:KV},ea_ T d k Q U→(∀ j∈Q,j∉Pi)→uD_ T1 d (p.kids[i]'h.hi).toNat k Q U:=fun {k Q U} I hd=>by
  have J:=I.keep (T':=T1) fun j O=>N j (hd j O);have ⟨r,h1,h2⟩:=J.2;exact⟨J.1,r,h1,by omega,fun _=>h2⟩
 have pre:=h.pre.imp (R':=uD_ T1 d (p.kids[i]'h.hi).toNat) fun k Q U I G=>A I fun j O F=>n2.2.2 j (G j O) j (by simp [F]) rfl;have suf:=h.suf.imp (R':=uD_ T1 d (p.kids[i]'h.hi).toNat) fun k Q U I G=>A I fun j O F=>n3.2.2 j F j (G j O) rfl;have Z:uD_ T1 d (p.kids[i]'h.hi).toNat (p.kids[i]'h.hi).toNat Pi' qs:=⟨V,q,Y,W,fun z=>(z rfl).elim⟩;have k1:=sT_.glue Z suf fun s e x hx=>h.c2 s e x (hq x hx);have k2:=pre.glue k1 fun s V e he=>h.c1 s V e (by grind);simp_all
theorem bN_.noShort (h:bN_ (uD_ T1 d short) ks ss P ps) (G:∃ q,T1[short]? =some q∧2≤q.keys.length):bN_ (ea_ T1 d) ks ss P ps:=
 h.imp fun k Q F r _=>⟨r.1,by
  have ⟨q,A,I,D⟩:=r.2;by_cases e:k=short
  ·grind
  ·exact⟨q,A,D e⟩⟩
end
structure Fu_ (T1:List Pg) (d:Nat) (kids:List Int) (keys:List ByteArray) (j x y:Nat) (s:ByteArray) (P:List Nat) (ps:KV) (short:Nat) (PA:List Nat) (psA:KV) (PX:List Nat) (psX:KV) (PY:List Nat) (psY:KV) (PC:List Nat) (psC:KV):Prop where
 eP:P=PA++(PX++(PY++PC))
 eps:ps=psA++(psX++(psY++psC))
 pre:qF_ (ea_ T1 d) (kids.take j) (keys.take j) PA psA
 kx:uD_ T1 d short x PX psX
 ky:uD_ T1 d short y PY psY
 suf:sT_ (ea_ T1 d) (kids.drop (j+2)) (keys.drop (j+1)) PC psC
 c1:∀ t∈keys.take j,∀ e∈psX++(psY++psC),blt e.1 t=false
 c2:∀ e∈psX,blt e.1 s=true
 c3:∀ e∈psY++psC,blt e.1 s=false
 c4:∀ u,(keys.drop (j+1)).head? =some u→∀ e∈psY,blt e.1 u=true
theorem u7_ {j:Nat} (h:bN_ (uD_ T1 d short) kids keys P ps) (hl:kids.length=keys.length+1) (hj:j < keys.length) (Y:P.Nodup)
 (hs:short=(kids[j]'(by omega)).toNat∨short=(kids[j+1]'(by omega)).toNat):
 ∃ V I O D U J PC F,Fu_ T1 d kids keys j (kids[j]'(by omega)).toNat (kids[j+1]'(by omega)).toNat keys[j] P ps short V I O D U J PC F:=by
 rw[←take_append_drop j kids,←take_append_drop j keys] at h;have ⟨V,I,P2,ps2,q1,q2,e1,e2,q3⟩:=bN_.split (by grind) (by simp; omega) h;rw[drop_eq_getElem_cons (by omega),drop_eq_getElem_cons hj,drop_eq_getElem_cons (by omega)] at q2;have ⟨O,D,P3,ps3,Z,r2,e3,e4,r3,r4⟩:=q2;have ⟨U,J,PC,F,t1,t2,e5,e6,t3⟩:=r2.head;subst e1; subst e2; subst e3; subst e4; subst e5; subst e6;have n1:=nodup_append.1 Y;have n2:=nodup_append.1 n1.2.1;have n3:=nodup_append.1 n2.2.1;have ix:=Z.1.head;have iy:=t1.1.head;have sh:∀ {k:Nat} {Q:List Nat} {N:KV},uD_ T1 d short k Q N→k∉O++U→ea_ T1 d k Q N:=fun {k Q N} A hk=>by
  have ⟨q,h1,h2,h3⟩:=A.2;refine⟨A.1,q,h1,h3 fun e=>hk ?_⟩;rcases hs with z | z
  ·rw[e,z]; simp [ix]
  ·rw[e,z]; simp [iy]
 refine⟨V,I,O,D,U,J,PC,F,rfl,rfl,q1.imp fun k Q N A G=>sh A fun z=> ?_,Z,t1,t2.imp fun k Q N A G=>sh A fun z=> ?_,q3,r3,r4,t3⟩
 ·have W:=G k A.1.head;grind
 ·have W:=G k A.1.head;rcases kD.1 z with z | z
  ·exact n2.2.2 k z k (by simp [W]) rfl
  ·exact n3.2.2 k z k W rfl
section
variable {kids:List Int} {keys:List ByteArray} {j x y:Nat} {s:ByteArray} {PA PX PY PC PZ PX' PY':List Nat} {psA psX psY psC psX' psY':KV} {px py:Pg}
theorem Cc_ (h:j+1 < kids.length):kids.eraseIdx (j+1)=kids.take j++(kids[j]'(by omega))::kids.drop (j+2):=by
 rw[eraseIdx_eq_take_drop_succ,take_succ_eq_append_getElem (by omega),append_assoc]; rfl
theorem Fu_.joined (h:Fu_ T1 d kids keys j x y s P ps short PA psA PX psX PY psY PC psC) (pw:Pw keys) (hj:j < keys.length) (es:s=keys[j]) (V:P.Nodup)
 (I:ea_ T2 d x PZ (psX++psY)) (N:∀ i∈PA++PC,T2[i]? =T1[i]?) (hjk:j < kids.length) (ex:x=(kids[j]'hjk).toNat):
 bN_ (ea_ T2 d) (kids.take j++(kids[j]'hjk)::kids.drop (j+2)) (keys.eraseIdx j) (PA++(PZ++PC)) ps:=by
 have D:ps=psA++((psX++psY)++psC):=by rw[h.eps]; simp
 rw[D,eraseIdx_eq_take_drop_succ];rw[ex] at I;have A:=h.suf.imp (R':=ea_ T2 d) fun k Q rs r F=>r.keep fun i U=>N i (by grind);have pre:=h.pre.imp (R':=ea_ T2 d) fun k Q rs r F=>r.keep fun i U=>N i (by grind);refine pre.glue (sT_.glue I A fun u J e O=> ?_) fun t W e O=>h.c1 t W e (by grind);rcases kD.1 O with z | z
 ·refine kE_ (h.c2 e z) (et_ ?_);have G:=mem_of_mem_head? J;have:=pairwise_iff_getElem.1 pw;obtain⟨m,hm,e'⟩:=kK G;grind
 ·exact h.c4 u J e z
theorem Fu_.shared (h:Fu_ T1 d kids keys j x y s P ps short PA psA PX psX PY psY PC psC) (hj:j < keys.length) (hl:kids.length=keys.length+1)
 (hx:ea_ T2 d x PX' A) (hy:ea_ T2 d y PY' psY') (J:A++psY'=psX++psY) (lt:∀ e∈A,blt e.1 V=true) (ge:∀ e∈psY',blt e.1 V=false) (hT:∀ i∈PA++PC,T2[i]? =T1[i]?) (ex:x=(kids[j]'(by omega)).toNat) (ey:y=(kids[j+1]'(by omega)).toNat) (pw:Pw keys) (es:s=keys[j]):
 bN_ (ea_ T2 d) kids (keys.set j V) (PA++(PX'++(PY'++PC))) ps∧Pw (keys.set j V):=by
 have hps:ps=psA++(A++(psY'++psC)):=by rw[h.eps,←append_assoc psX psY,←J]; simp
 have suf:=h.suf.imp (R':=ea_ T2 d) fun k Q rs hb O=>hb.keep fun i hi=>hT i (by simp [O i hi]);have pre:=h.pre.imp (R':=ea_ T2 d) fun k Q rs hb O=>hb.keep fun i hi=>hT i (by simp [O i hi]);have hk:kids=kids.take j++(kids[j]'(by omega))::(kids[j+1]'(by omega))::kids.drop (j+2):=by
  simp_all
 have hks:keys.set j V=keys.take j++V::keys.drop (j+1):=by rw[set_eq_take_append_cons_drop,if_pos hj]
 have allX:∀ e∈A++(psY'++psC),e∈psX++(psY++psC):=fun e I=>by
  grind
 have Z:∀ u,(keys.drop (j+1)).head? =some u→∀ e∈psX++psY,blt e.1 u=true:=fun u D e I=>by
  rcases kD.1 I with z | z
  ·refine kE_ (h.c2 e z) (et_ ?_);rw[es];have hu':=mem_of_mem_head? D;have ⟨m,hm,e'⟩:=kK hu';rw[getElem_drop] at e';rw[←e'];exact pairwise_iff_getElem.1 pw j (j+1+m) hj (by simp at hm; omega) (by omega)
  ·exact h.c4 u D e z
 have geC:∀ e∈psC,blt e.1 V=false:=fun e I=>by
  have ⟨u,D,z⟩:=h.suf.ge e I;have ⟨y0,G⟩:=exists_mem_of_ne_nil _ hy.ne;cases Y:keys.drop (j+1) with
  | nil=>rw[Y] at D; cases D
  | cons v vs=>
   have hv:(keys.drop (j+1)).head? =some v:=by rw[Y]; rfl
   have h1:=Z v hv y0 (by rw[←J]; simp [G]);have h2:=rK_ (ge y0 G) h1;have N:=h.suf;rw[Y] at N;exact xw_ (et_ h2) (N.2 e I)
 have mid:bN_ (ea_ T2 d) ((kids[j]'(by omega))::(kids[j+1]'(by omega))::kids.drop (j+2)) (V::keys.drop (j+1)) (PX'++(PY'++PC)) (A++(psY'++psC)):=by
  refine⟨PX',A,PY'++PC,psY'++psC,by rw[←ex]; exact hx,sT_.glue (by rw[←ey]; exact hy) suf fun u D e I=>Z u D e (by rw[←J]; simp [I]),rfl,rfl,lt,fun e I=> ?_⟩;rcases kD.1 I with z | z
  ·exact ge e z
  ·exact geC e z
 refine⟨?_,?_⟩
 ·rw[hks,hps];have:=pre.glue mid fun t ht e I=>h.c1 t ht e (allX e I);rw[←hk] at this;omega
 ·rw[hks];have pws:Pw (keys.take j++keys[j]::keys.drop (j+1)):=by rw[getElem_cons_drop,take_append_drop]; exact pw
  have q1:=pairwise_append.1 pws;have q2:=pairwise_cons.1 q1.2.1;have ⟨x0,hx0⟩:=exists_mem_of_ne_nil _ hx.ne;have ⟨y0,G⟩:=exists_mem_of_ne_nil _ hy.ne;refine pairwise_append.2 ⟨q1.1,pairwise_cons.2 ⟨fun u D=> ?_,q2.2⟩,fun t ht u D=> ?_⟩
  ·cases Y:keys.drop (j+1) with
   | nil=>rw[Y] at D; cases D
   | cons v vs=>
    have hv:(keys.drop (j+1)).head? =some v:=by rw[Y]; rfl
    have h1:=Z v hv y0 (by rw[←J]; simp [G]);have h2:=rK_ (ge y0 G) h1;rw[Y] at D q2;rcases mem_cons.1 D with z | z
    ·rw[z]; exact h2
    ·exact kE_ h2 (et_ ((pairwise_cons.1 q2.2).1 u z))
  ·rcases mem_cons.1 D with z | z
   ·rw[z];have:=h.c1 t ht x0 (by have:x0∈psX++psY:=by rw[←J]; simp [hx0]
                                 simp at this ⊢; rcases this with w | w<;>simp [w])
    exact rK_ this (lt x0 hx0)
   ·exact q1.2.2 t ht u (mem_cons_of_mem _ z)
end
end
end Go.Am
namespace Go.Am
open List
section
variable {T T1 T2:List Pg} {D d a short j x y:Nat} {p px py:Pg} {key:ByteArray} {P Q:List Nat} {ps qs:KV}
theorem Ac_ (r:fS_ p) (D:p.leaf=false) (J:j < p.keys.length) (V:2≤p.keys.length):fS_ ⟨p.used,p.leaf,p.keys.eraseIdx j,p.vals,p.kids.eraseIdx (j+1)⟩:=by
 have ⟨U,I,N,G,F⟩:=r.2.inner D;have W:=r.1;have O:(p.keys.eraseIdx j).length=p.keys.length - 1:=by grind
 refine⟨by show (p.keys.eraseIdx j).length≤4; omega,r.2.used,fs_ ((cV_ r.2.rising).sublist (eraseIdx_sublist _ _)),fun k A=>r.2.keys k (jh_ A),fun q=> ?_,fun _=>⟨?_,I,?_,fun k A=>G k (jh_ A),F.sublist (eraseIdx_sublist _ _)⟩⟩
 ·grind
 ·grind
 ·grind
theorem DT_ (r:fS_ p) (A:p.leaf=false) (V:1≤s.size∧s.size≤6) (F:Pw (p.keys.set j s)):fS_ ⟨p.used,p.leaf,p.keys.set j s,p.vals,p.kids⟩:=by
 have ⟨O,J,N,I,G⟩:=r.2.inner A;have U:=r.1;refine⟨by simp; omega,r.2.used,fs_ F,fun k D=> ?_,fun q=> ?_,fun _=>⟨by simp; omega,J,by grind,I,G⟩⟩
 ·rcases mem_or_eq_of_mem_set D with q | q
  ·exact r.2.keys k q
  ·grind
 ·grind
theorem B1_ (r:px.leaf=py.leaf) (s:ByteArray):(ay_ px s py).keys.length=px.keys.length+py.keys.length+(match px.leaf with | true=>0 | false=>1):=by
 unfold ay_;grind
theorem DG_ (hK:bN_ (uD_ T1 d short) p.kids p.keys Q qs) (hm:fS_ p) (hl:p.leaf=false) (hQ:Q.Nodup) (hj:j < p.keys.length) (hjk:j+1 < p.kids.length)
 (hs:short=(p.kids[j]'(by omega)).toNat∨short=(p.kids[j+1]'hjk).toNat) (hx:T1[(p.kids[j]'(by omega)).toNat]? =some px) (hy:T1[(p.kids[j+1]'hjk).toNat]? =some py):
 (ay_ px p.keys[j] py).keys.length≤6+(match decide (px.keys.length=1∨py.keys.length=1) with | true=>0 | false=>4)∧k2_ (ay_ px p.keys[j] py)∧(lE_ px p.keys[j] py↔(ay_ px p.keys[j] py).keys.length≤4)∧(p.kids[j]'(by omega)).toNat≠(p.kids[j+1]'hjk).toNat∧(p.kids[j]'(by omega)).toNat∈Q∧(p.kids[j+1]'hjk).toNat∈Q∧
 ((ay_ px p.keys[j] py).keys.length≤4→T2[(p.kids[j]'(by omega)).toNat]? =some (ay_ px p.keys[j] py)→(∀ i∈Q,i≠(p.kids[j]'(by omega)).toNat→i≠(p.kids[j+1]'hjk).toNat→T2[i]? =T1[i]?)→
   ∃ Q',Q'.Nodup∧(∀ i∈Q',i∈Q)∧(∀ i∈Q,i∉Q'→i=(p.kids[j+1]'hjk).toNat)∧bN_ (ea_ T2 d) (p.kids.eraseIdx (j+1)) (p.keys.eraseIdx j) Q' qs)∧
 (5≤(ay_ px p.keys[j] py).keys.length→(px.keys.length=1∨py.keys.length=1)→
  ∃ hk:(ay_ px p.keys[j] py).keys.length / 2 < (ay_ px p.keys[j] py).keys.length,fS_ (hd_ (ay_ px p.keys[j] py) ((ay_ px p.keys[j] py).keys.length / 2))∧fS_ (gR_ (ay_ px p.keys[j] py) ((ay_ px p.keys[j] py).keys.length / 2))∧(1≤((ay_ px p.keys[j] py).keys[(ay_ px p.keys[j] py).keys.length / 2]'hk).size∧((ay_ px p.keys[j] py).keys[(ay_ px p.keys[j] py).keys.length / 2]'hk).size≤6)∧
  (T2[(p.kids[j]'(by omega)).toNat]? =some (hd_ (ay_ px p.keys[j] py) ((ay_ px p.keys[j] py).keys.length / 2))→T2[(p.kids[j+1]'hjk).toNat]? =some (gR_ (ay_ px p.keys[j] py) ((ay_ px p.keys[j] py).keys.length / 2))→
   (∀ i∈Q,i≠(p.kids[j]'(by omega)).toNat→i≠(p.kids[j+1]'hjk).toNat→T2[i]? =T1[i]?)→
   ∃ Q',Q'.Nodup∧(∀ i,i∈Q'↔i∈Q)∧bN_ (ea_ T2 d) p.kids (p.keys.set j ((ay_ px p.keys[j] py).keys[(ay_ px p.keys[j] py).keys.length / 2]'hk)) Q' qs∧Pw (p.keys.set j ((ay_ px p.keys[j] py).keys[(ay_ px p.keys[j] py).keys.length / 2]'hk)))):=by
 obtain⟨f1,f2,f3,f4,f5⟩:=hm.2.inner hl;have pw:=cV_ hm.2.rising;obtain⟨PA,psA,PX,psX,PY,psY,PC,psC,pr⟩:=u7_ hK f3 hj hQ hs;have hQ':=hQ;rw[pr.eP] at hQ';have n1:=nodup_append.1 hQ';have n2:=nodup_append.1 n1.2.1;have n3:=nodup_append.1 n2.2.1;have nXY:(PX++PY).Nodup:=nodup_append.2 ⟨n2.1,n3.1,fun u hu v hv=>n2.2.2 u hu v (by simp [hv])⟩;have hX:=pr.kx.1;have hY:=pr.ky.1;have ix:=hX.head;have iy:=hY.head;have hsz:=hm.2.keys _ (kE hj);have hleaf:=kX_ hX hY hx hy;have geY:∀ e∈psY,blt e.1 p.keys[j]=false:=fun e he=>pr.c3 e (by simp [he]);have hf:=xL_ hX hY hx hy nXY hsz pr.c2 geY;have hc:=Fc_ (s:=p.keys[j]) hX hY hx hy hf;have hne:(p.kids[j]'(by omega)).toNat≠(p.kids[j+1]'hjk).toNat:=fun e=>(nodup_append.1 nXY).2.2 _ ix _ iy e;have mx:=hX.may hx;have my:=hY.may hy;have m1:=mx.1;have m2:=my.1;obtain⟨qx,hqx,x1,x2⟩:=pr.kx.2;obtain⟨qy,hqy,y1,y2⟩:=pr.ky.2;rw[hx] at hqx; cases hqx;rw[hy] at hqy; cases hqy;have jl:=B1_ hleaf p.keys[j];have inQ:∀ i,i∈Q↔(i∈PA∨i∈PX∨i∈PY∨i∈PC):=fun i=>by rw[pr.eP]; simp
 refine⟨?_,hf,hc,hne,(inQ _).2 (by simp [ix]),(inQ _).2 (by simp [iy]),fun h4 hx2 hT=> ?_,fun h5 hsh=> ?_⟩
 ·rw[jl];by_cases e:px.keys.length=1∨py.keys.length=1
  ·rw[decide_eq_true e]; cases px.leaf<;>simp<;>omega
  ·rw[decide_eq_false e]; cases px.leaf<;>simp<;>omega
 ·have hmj:fS_ (ay_ px p.keys[j] py):=⟨h4,hf⟩;obtain⟨PZ,z1,z2,z3,z4,z5⟩:=E6_ (T':=T2) hX hY hx hy nXY pr.c2 geY hmj (fun i hi h1 h2=>hT i ((inQ i).2 (by simp at hi; rcases hi with q | q<;>simp [q])) h1 h2) hx2;have hz:ea_ T2 d (p.kids[j]'(by omega)).toNat PZ (psX++psY):=⟨z1,_,hx2,by rw[jl]; cases px.leaf<;>simp<;>omega⟩;have apart:∀ i∈PA++PC,i∉PX++PY:=fun i hi hi'=>by
   rcases kD.1 hi with q | q
   ·rcases kD.1 hi' with z | z
    ·exact n1.2.2 i q i (by simp [z]) rfl
    ·exact n1.2.2 i q i (by simp [z]) rfl
   ·rcases kD.1 hi' with z | z
    ·exact n2.2.2 i z i (by simp [q]) rfl
    ·exact n3.2.2 i z i q rfl
  have keep:∀ i∈PA++PC,T2[i]? =T1[i]? :=fun i hi=>hT i ((inQ i).2 (by simp at hi; rcases hi with q | q<;>simp [q])) (fun e=>apart i hi (by rw[e]; simp [ix])) (fun e=>apart i hi (by rw[e]; simp [iy]));have kk:=pr.joined pw hj rfl hQ hz keep (by omega) rfl;rw[←Cc_ hjk] at kk;refine⟨PA++(PZ++PC),?_,fun i hi=> ?_,fun i hi hi'=> ?_,kk⟩
  ·refine nodup_append.2 ⟨n1.1,nodup_append.2 ⟨z2,n3.2.1,fun u hu v hv e=> ?_⟩,fun u hu v hv e=> ?_⟩
   ·subst e; exact apart u (by simp [hv]) (z3 u hu)
   ·subst e;rcases kD.1 hv with q | q
    ·exact apart u (by simp [hu]) (z3 u q)
    ·exact n1.2.2 u hu u (by simp [q]) rfl
  ·rw[inQ];simp only[kD] at hi;rcases hi with q | q | q
   ·exact .inl q
   ·have:=z3 i q;simp only[kD] at this;rcases this with w | w<;>simp [w]
   ·simp [q]
  ·rw[inQ] at hi;simp only[kD,not_or] at hi';refine Decidable.byContradiction fun e=> ?_;rcases hi with q | q | q | q
   ·exact hi'.1 q
   ·exact hi'.2.1 (z5 i (by simp [q]) e)
   ·exact hi'.2.1 (z5 i (by simp [q]) e)
   ·exact hi'.2.2 q
 ·have l6:(ay_ px p.keys[j] py).keys.length≤6:=by rw[jl]; cases px.leaf<;>simp<;>omega
  have hk:(ay_ px p.keys[j] py).keys.length / 2 < (ay_ px p.keys[j] py).keys.length:=by omega
  have hleafJ:(ay_ px p.keys[j] py).leaf=px.leaf:=rfl;have lR:1≤(gR_ (ay_ px p.keys[j] py) ((ay_ px p.keys[j] py).keys.length / 2)).keys.length∧2≤(gR_ (ay_ px p.keys[j] py) ((ay_ px p.keys[j] py).keys.length / 2)).keys.length∧(gR_ (ay_ px p.keys[j] py) ((ay_ px p.keys[j] py).keys.length / 2)).keys.length≤4:=by
   unfold gR_;rw[hleafJ];cases hpl:px.leaf with
   | true=>
    rw[hpl] at jl;simp only[kQ] at jl;simp only[length_drop];omega
   | false=>simp only[length_drop]; omega
  have lL:(hd_ (ay_ px p.keys[j] py) ((ay_ px p.keys[j] py).keys.length / 2)).keys.length=(ay_ px p.keys[j] py).keys.length / 2:=by
   unfold hd_;rw[hleafJ];cases px.leaf<;>(simp only[length_take]; omega)
  refine⟨hk,⟨by omega,xF_ hf hk (by omega)⟩,⟨lR.2.2,xP_ hf lR.1⟩,hf.keys _ (kE hk),fun hx2 hy2 hT=> ?_⟩;obtain⟨PX',psX',PY',psY',w1,w2,w3,w4,w5,w6,w7⟩:=GM_ (T':=T2) hX hY hx hy nXY hsz pr.c2 geY hk (by omega) (by omega) lR.1 lR.2.2 (fun i hi h1 h2=>hT i ((inQ i).2 (by simp at hi; rcases hi with q | q<;>simp [q])) h1 h2) hx2 hy2;have apart:∀ i∈PA++PC,i∉PX++PY:=fun i hi hi'=>by
   rcases kD.1 hi with q | q
   ·rcases kD.1 hi' with z | z
    ·exact n1.2.2 i q i (by simp [z]) rfl
    ·exact n1.2.2 i q i (by simp [z]) rfl
   ·rcases kD.1 hi' with z | z
    ·exact n2.2.2 i z i (by simp [q]) rfl
    ·exact n3.2.2 i z i q rfl
  have keep:∀ i∈PA++PC,T2[i]? =T1[i]? :=fun i hi=>hT i ((inQ i).2 (by simp at hi; rcases hi with q | q<;>simp [q])) (fun e=>apart i hi (by rw[e]; simp [ix])) (fun e=>apart i hi (by rw[e]; simp [iy]));obtain⟨kk,kp⟩:=pr.shared hj f3 (T2:=T2) ⟨w1,_,hx2,by omega⟩ ⟨w2,_,hy2,lR.2.1⟩ w3 w6 w7 keep rfl rfl pw rfl;have n4:=nodup_append.1 w4;refine⟨_,?_,fun i=> ?_,kk,kp⟩
  ·refine nodup_append.2 ⟨n1.1,nodup_append.2 ⟨n4.1,nodup_append.2 ⟨n4.2.1,n3.2.1,fun u hu v hv e=> ?_⟩,fun u hu v hv e=> ?_⟩,fun u hu v hv e=> ?_⟩
   ·subst e; exact apart u (by simp [hv]) ((w5 u).1 (by simp [hu]))
   ·subst e;rcases kD.1 hv with q | q
    ·exact n4.2.2 u hu u q rfl
    ·exact apart u (by simp [q]) ((w5 u).1 (by simp [hu]))
   ·subst e;rcases kD.1 hv with q | q
    ·exact apart u (by simp [hu]) ((w5 u).1 (by simp [q]))
    ·rcases kD.1 q with q | q
     ·exact apart u (by simp [hu]) ((w5 u).1 (by simp [q]))
     ·exact n1.2.2 u hu u (by simp [q]) rfl
  ·rw[inQ];have:=w5 i;simp only[kD] at this ⊢;constructor
   ·rintro (q | q | q | q)
    ·simp [q]
    ·rcases this.1 (.inl q) with w | w<;>simp [w]
    ·rcases this.1 (.inr q) with w | w<;>simp [w]
    ·simp [q]
   ·rintro (q | q | q | q)
    ·simp [q]
    ·rcases this.2 (.inl q) with w | w<;>simp [w]
    ·rcases this.2 (.inr q) with w | w<;>simp [w]
    ·simp [q]
end
end Go.Am
namespace Go.Am
open List
structure CM (B H:Hp) (le tp:Nat) (ds:List PC) (T:List Pg) (X:Nat→Prop):Prop where
 pre:B<+:H
 ot:OT H B.length tPg (some (tp,0)) 48 ds T
 wo:∀ i (h:i < ds.length),WoP H B.length 1000 ds[i]
 base:∀ i (h:i < ds.length) l,(ds[i]).on l→B.length≤l
 own:∀ i (h:i < ds.length) (h':i < T.length),X i→(ds[i]).own H B.length T[i]
 ap:∀ i j (hi:i < ds.length) (hj:j < ds.length),i≠j→∀ l,(ds[i]).on l→ ¬ (ds[j]).on l
 er:H[le]? =some (.row true yw_ [.sl (some (tp,0)) 48 5])
 erB:B.length≤le
 offE:∀ i (h:i < ds.length),¬ (ds[i]).on le
section
variable {B H H':Hp} {le tp:Nat} {ds:List PC} {T:List Pg} {X X':Nat→Prop} {i:Nat} {c:PC} {p:Pg}
theorem CM.ne (g:CM B H le tp ds T X):le≠tp:=fun e=>by
 have r:=g.er;have A:=g.ot.at_row.2;grind
theorem CM.gtE (g:CM B H le tp ds T X):gt H le 0=some (.sl (some (tp,0)) 48 5):=by rw[bw_ g.er]; rfl
theorem CM.mono (g:CM B H le tp ds T X) (r:H<+:H'):CM B H' le tp ds T X:=by
 have lt:∀ i (h:i < ds.length) l,(ds[i]).on l→l < H.length:=fun i h l I=>g.ot.onlt (kE h) I;refine⟨g.pre.trans r,g.ot.mono r,fun i h=> ?_,g.base,fun i h U N=>(g.own i h U N).keep fun l I=>br_ r (lt i h l I),g.ap,by rw[br_ r (kC.1 g.er).1]; exact g.er,g.erB,g.offE⟩;have w:=g.wo i h;have J:∀ {a n M},TxR H B.length M a n→TxR H' B.length M a n:=fun h=>by
  rcases h with h | ⟨l,o,D,e,G,A,F,O⟩
  ·exact .inl h
  ·exact .inr ⟨l,o,D,e,G,by unfold js_; rw[br_ r (kC.1 A).1]; exact A,F,O⟩
 have V:∀ {a n},NuR H B.length a n→NuR H' B.length a n:=fun h=>by
  rcases h with h | ⟨l,o,D,e,G,A,F⟩
  ·exact .inl h
  ·exact .inr ⟨l,o,D,e,G,by unfold pL_; rw[br_ r (kC.1 A).1]; exact A,F⟩
 exact⟨J w.t1,J w.t2,V w.t3,w.s1,w.s2,w.s3⟩
theorem WoP.keepOn (w:WoP H b M c) (I:∀ l,c.on l→H'[l]? =H[l]?):WoP H' b M c:=by
 refine⟨?_,?_,?_,w.s1,w.s2,w.s3⟩
 ·rcases w.t1 with h | ⟨l,o,F,e,D,r,A,G⟩
  ·exact .inl h
  ·exact .inr ⟨l,o,F,e,D,by unfold js_; rw[I l ⟨o,.inl e⟩]; exact r,A,G⟩
 ·rcases w.t2 with h | ⟨l,o,F,e,D,r,A,G⟩
  ·exact .inl h
  ·exact .inr ⟨l,o,F,e,D,by unfold js_; rw[I l ⟨o,.inr (.inl e)⟩]; exact r,A,G⟩
 ·rcases w.t3 with h | ⟨l,o,F,e,D,r,A⟩
  ·exact .inl h
  ·exact .inr ⟨l,o,F,e,D,by unfold pL_; rw[I l ⟨o,.inr (.inr e)⟩]; exact r,A⟩
theorem CM.turn (g:CM B H le tp ds T X) (hi:i < ds.length) (Y:H.length≤H'.length) (D:∀ l,l < H.length→ ¬ (ds[i]).on l→l≠tp→H'[l]? =H[l]?)
 (O:H'[tp]? =some (.row true tPg (bD_ (ds.set i c)))) (hc:c.at H' p) (hw:WoP H' B.length 1000 c)
 (F:∀ l,c.on l→l≠tp∧l≠le∧B.length≤l∧∀ j (U:j < ds.length),j≠i→ ¬ (ds[j]).on l) (hX:∀ j,X' j→(j=i∧c.own H' B.length p)∨(j≠i∧X j)):
 CM B H' le tp (ds.set i c) (T.set i p) X':=by
 have W:=g.ot.len;have q2:=g.ot.lenT;have ⟨hb,hr⟩:=g.ot.at_row;have htp:=(kC.1 hr).1;have lt:∀ j (h:j < ds.length) l,(ds[j]).on l→l < H.length:=fun j h l r=>g.ot.onlt (kE h) r;have A:=fun j h J l r=>D l (lt j h l r) (g.ap j i h hi J l r) (fun e=>g.ot.off _ (kE h) l r (by rw[e]));have N:B<+:H':=by
  rw[prefix_iff_eq_take];apply ext_getElem?;intro l;rw[getElem?_take];split
  ·rename_i r;rw[D l (by omega) (fun h=>by have:=g.base i hi l h; omega) (by omega),br_ g.pre r]
  ·grind
 refine⟨N,⟨.inr ⟨tp,rfl,hb,O,by rw[ck_]; simp [W]⟩,by simp [W],by simp [q2],fun j I G=> ?_,fun d hd l r e=> ?_⟩,fun j h=> ?_,fun j h l r=> ?_,fun j h h' hx=> ?_,fun j k U Z J l I G=> ?_,?_,g.erB,fun j h r=> ?_⟩
 ·rw[getElem_set,getElem_set];by_cases e:i=j
  ·rw[if_pos e,if_pos e]; exact hc
  ·rw[if_neg e,if_neg e];simp at I G;exact (g.ot.all j I G).keep (A j I (Ne.symm e))
 ·cases e;rcases mem_or_eq_of_mem_set hd with q | q
  ·exact g.ot.off d q tp r rfl
  ·subst q; exact (F tp r).1 rfl
 ·rw[getElem_set];by_cases e:i=j
  ·rw[if_pos e]; exact hw
  ·rw[if_neg e]; simp at h; exact (g.wo j h).keepOn (A j h (Ne.symm e))
 ·rw[getElem_set] at r;by_cases e:i=j
  ·rw[if_pos e] at r; exact (F l r).2.2.1
  ·rw[if_neg e] at r; simp at h; exact g.base j h l r
 ·rw[getElem_set,getElem_set];rcases hX j hx with⟨e,ho⟩ | ⟨e,V⟩
  ·rw[if_pos e.symm,if_pos e.symm]; exact ho
  ·rw[if_neg (Ne.symm e),if_neg (Ne.symm e)];simp at h h';exact (g.own j h h' V).keep (A j h e)
 ·rw[getElem_set] at I G;simp at U Z;by_cases e1:i=j
  ·grind
  ·rw[if_neg e1] at I;by_cases e2:i=k
   ·rw[if_pos e2] at G;exact (F l G).2.2.2 j U (Ne.symm e1) I
   ·rw[if_neg e2] at G;exact g.ap j k U Z J l I G
 ·rw[D le (kC.1 g.er).1 (g.offE i hi) g.ne]; exact g.er
 ·rw[getElem_set] at r;by_cases e:i=j
  ·rw[if_pos e] at r; exact (F le r).2.1 rfl
  ·rw[if_neg e] at r; simp at h; exact g.offE j h r
theorem CM.lay (g:CM B H le tp ds T X) (hi:i < ds.length) (O:c.at H p) (V:WoP H B.length 1000 c) (r:∀ l,c.on l→l≠tp∧l≠le∧B.length≤l∧∀ j (I:j < ds.length),j≠i→ ¬ (ds[j]).on l)
 (N:∀ H',CM B H' le tp (ds.set i c) (T.set i p) (fun j=>j≠i∧X j)→H'.length=H.length→(∀ l,l≠tp→H'[l]? =H[l]?)→K H'):
 wr H tp (0+i*5) (.bool c.u) fun W=>wr W tp (0+i*5+1) (.bool c.l) fun U=>wr U tp (0+i*5+1+1) (.sl c.a1 c.n1 1) fun J=>wr J tp (0+i*5+1+1+1) (.sl c.a2 c.n2 1) fun Y=>wr Y tp (0+i*5+1+1+1+1) (.sl c.a3 c.n3 1) K:=by
 have ⟨Z,G⟩:=g.ot.at_row;have F:=(kC.1 G).1;rw[kN];have D:∀ l,l≠tp→(H.set tp (.row true tPg (bD_ (ds.set i c))))[l]? =H[l]? :=fun l A=>by grind
 refine wr5 G hi (N _ (g.turn hi (by simp) (fun l _ _ A=>D l A) (kH F) (O.keep fun l A=>D l (r l A).1) (V.keepOn fun l A=>D l (r l A).1) r fun j I=> .inr I) (by simp) D)
theorem G8_ (H:Hp):(⟨false,false,none,0,none,0,none,0⟩:PC).at H noPg:=Ci_ H
theorem G0_ (H:Hp) (b M:Nat):WoP H b M ⟨false,false,none,0,none,0,none,0⟩:=⟨.inl rfl,.inl rfl,.inl rfl,by simp,by show 0≤1000; omega,by show 0≤1000; omega⟩
theorem Ed_: ¬ (⟨false,false,none,0,none,0,none,0⟩:PC).on l:=by rintro⟨o,q | q | q⟩<;>cases q
theorem ko_ (h:Own H b t a n cs) (F:0 < n):∃ l,a=some (l,0)∧b≤l∧H[l]? =some (.row true t cs)∧cs.length=n:=by
 rcases h with⟨_,q,_⟩ | ⟨l,e,r,D,A⟩
 ·omega
 ·grind
theorem vq_ {xs:List ByteArray} (r:b≤l) (D:js_ H l (xs.eraseIdx i++[mkS []])) (G:xs.length=n) (hi:i < n) (F:∀ s∈xs,s.size≤1000):TxR H b 1000 (some (l,0)) (n - 1):=by
 refine .inr ⟨l,0,_,rfl,r,D,?_,fun x A=> ?_⟩
 ·grind
 ·rcases kD.1 A with q | q
  ·exact F x (jh_ q)
  ·simp_all
theorem uU_ {xs:List ByteArray} (A:js_ H l (xs.eraseIdx i++[mkS []])) (D:xs.length=n) (hi:i < n) (r:n≤1000):Ss H (some (l,0)) (n - 1) (xs.eraseIdx i):=by
 have e:(xs.eraseIdx i).length=n - 1:=by grind
 refine⟨?_,e.symm,by omega⟩;simp [cells?];grind
theorem ET_ {xs:List Int} (A:pL_ H l (xs.eraseIdx i++[0])) (D:xs.length=n) (hi:i < n) (r:n≤1000):Is H (some (l,0)) (n - 1) (xs.eraseIdx i):=by
 have e:(xs.eraseIdx i).length=n - 1:=by grind
 refine⟨?_,e.symm,by omega⟩;simp [cells?];grind
end
end Go.Am
namespace Go.Am
open List
section
variable {B H H':Hp} {le tp:Nat} {ds:List PC} {T:List Pg} {X:Nat→Prop} {i:Nat} {p:Pg} {Q:Post}
theorem H2_ (G:H[tp]? =some (.row true tPg (bD_ r))) (hi:i < r.length) (O:K (H.set tp (.row true tPg (bD_ (r.set i ⟨r[i].u,r[i].l,D,A,I,J,r[i].a3,r[i].n3⟩))))):
 wr H tp (0+i*5+2) (.sl D A 1) fun N=>wr N tp (0+i*5+3) (.sl I J 1) K:=by
 have F:=(kC.1 G).1;rw[kN];refine cr_ G (by rw[ck_]; omega) ?_;rw[ix_ r i 2 _ ⟨r[i].u,r[i].l,D,A,r[i].a2,r[i].n2,r[i].a3,r[i].n3⟩ hi (by omega) rfl];refine cr_ (kH F) (by rw[ck_]; simp; omega) ?_;rw[ix_ _ i 3 _ ⟨r[i].u,r[i].l,D,A,I,J,r[i].a3,r[i].n3⟩ (by grind) (by omega) (by rw[getElem_set_self]; rfl),set_set,set_set];exact O
theorem If_ (G:H[tp]? =some (.row true tPg (bD_ r))) (hi:i < r.length) (O:K (H.set tp (.row true tPg (bD_ (r.set i ⟨r[i].u,r[i].l,D,A,r[i].a2,r[i].n2,I,J⟩))))):
 wr H tp (0+i*5+2) (.sl D A 1) fun N=>wr N tp (0+i*5+4) (.sl I J 1) K:=by
 have F:=(kC.1 G).1;rw[kN];refine cr_ G (by rw[ck_]; omega) ?_;rw[ix_ r i 2 _ ⟨r[i].u,r[i].l,D,A,r[i].a2,r[i].n2,r[i].a3,r[i].n3⟩ hi (by omega) rfl];refine cr_ (kH F) (by rw[ck_]; simp; omega) ?_;rw[ix_ _ i 4 _ ⟨r[i].u,r[i].l,D,A,r[i].a2,r[i].n2,I,J⟩ (by grind) (by omega) (by rw[getElem_set_self]; rfl),set_set,set_set];exact O
theorem CM.delLeaf (g:CM B H le tp ds T X) (hi:i < ds.length) (hi':i < T.length) (hx:X i) {s:Nat} (hs:s < (T[i]).keys.length) (hv:(T[i]).vals.length=(T[i]).keys.length) (hsm:small T[i])
 (hQ:∀ H' ds',CM B H' le tp ds' (T.set i (Hm_ T[i] s)) (fun j=>j≠i∧X j)→Q (.tup []) H'):
 (rd H tp (0+i*5+2) fun v23=>
 dL 1 v23 fun x24 n25=>
 rd H tp (0+i*5+3) fun v26=>
 dL 1 v26 fun x27 n28=>
 cl aS_ [(.g (.sl x24 n25 1)),(.g (.int .i64 (s:Int))),(.g (.int .i64 (ac_ .i64 ((s:Int)+1))))] H fun r29 H30=>
 rG r29 fun v31=>
 dL 1 v31 fun x32 n33=>
 rd H30 tp (0+i*5+3) fun v34=>
 dL 1 v34 fun x35 n36=>
 eqv (.g (.sl x27 n28 1)) (.g (.sl x35 n36 1)) (cl aS_ [(.g (.sl x27 n28 1)),(.g (.int .i64 (s:Int))),(.g (.int .i64 (ac_ .i64 ((s:Int)+1))))] H30 fun r37 H38=>
 rG r37 fun v39=>
 dL 1 v39 fun x40 n41=>
 wr H38 tp (0+i*5+2) (.sl x32 n33 1) fun H42=>
 wr H42 tp (0+i*5+3) (.sl x40 n41 1) fun H43=>
 Q (.tup []) H43)):=by
 obtain⟨s1,s2,s3,s4,s5⟩:=hsm
 have ho:=g.own i hi hi' hx
 have hat:=g.ot.all i hi hi'
 have e1:=hat.keys.len
 have e2:=hat.vals.len
 obtain⟨lk,k1,k2,k3,k4⟩:=ko_ ho.keys (by omega)
 obtain⟨lv,v1,v2,v3,v4⟩:=ko_ ho.vals (by omega)
 have hne:lk≠lv:=fun e=>ho.d12 lk 0 0 k1 (by rw[v1,e])
 obtain⟨hb,hr⟩:=g.ot.at_row
 have htp:=(kC.1 hr).1
 have hlk:=(kC.1 k3).1
 have hlv:=(kC.1 v3).1
 have onk:(ds[i]).on lk:=⟨0,.inl k1⟩
 have onv:(ds[i]).on lv:=⟨0,.inr (.inl v1)⟩
 have nkt:lk≠tp:=fun e=>by subst e; exact g.ot.off _ (kE hi) _ onk rfl
 have nvt:lv≠tp:=fun e=>by subst e; exact g.ot.off _ (kE hi) _ onv rfl
 have g2:gt H tp (0+i*5+2)=some (.sl ds[i].a1 ds[i].n1 1):=by rw[kN]; exact g.ot.gt hi (by omega)
 have g3:gt H tp (0+i*5+3)=some (.sl ds[i].a2 ds[i].n2 1):=by rw[kN]; exact g.ot.gt hi (by omega)
 rw[ad_ g2,ah_,ad_ g3,ah_,an_ (by omega),k1]
 refine pE_ (xs:=(T[i]).keys) k3 (by omega) (by omega) (by omega) ?_
 simp only[aN_,ah_]
 have hr1:(H.set lk (.row true tS (((T[i]).keys.eraseIdx s++[mkS []]).map GV.str)))[tp]? =some (.row true tPg (bD_ ds)):=by rw[kF nkt]; exact hr
 have g3':gt (H.set lk (.row true tS (((T[i]).keys.eraseIdx s++[mkS []]).map GV.str))) tp (0+i*5+3)=some (.sl ds[i].a2 ds[i].n2 1):=by
  rw[bw_ hr1,kN]; exact jx_ hi (by omega)
 rw[ad_ g3',ah_]
 refine⟨rfl,?_⟩
 rw[v1]
 have v3':js_ (H.set lk (.row true tS (((T[i]).keys.eraseIdx s++[mkS []]).map GV.str))) lv (T[i]).vals:=by unfold js_; rw[kF hne]; exact v3
 refine pE_ (xs:=(T[i]).vals) v3' (by omega) (by omega) (by omega) ?_
 simp only[aN_,ah_]
 refine H2_ (by rw[kF nvt]; exact hr1) hi ?_
 refine hQ _ (ds.set i ⟨ds[i].u,ds[i].l,some (lk,0),ds[i].n1 - 1,some (lv,0),ds[i].n2 - 1,ds[i].a3,ds[i].n3⟩) ?_
 have kk:js_ (((H.set lk (.row true tS (((T[i]).keys.eraseIdx s++[mkS []]).map GV.str))).set lv (.row true tS (((T[i]).vals.eraseIdx s++[mkS []]).map GV.str))).set tp (.row true tPg (bD_ (ds.set i ⟨ds[i].u,ds[i].l,some (lk,0),ds[i].n1 - 1,some (lv,0),ds[i].n2 - 1,ds[i].a3,ds[i].n3⟩)))) lk ((T[i]).keys.eraseIdx s++[mkS []]):=by
  unfold js_; rw[kF (Ne.symm nkt),kF (Ne.symm hne),kH hlk]
 have kv:js_ (((H.set lk (.row true tS (((T[i]).keys.eraseIdx s++[mkS []]).map GV.str))).set lv (.row true tS (((T[i]).vals.eraseIdx s++[mkS []]).map GV.str))).set tp (.row true tPg (bD_ (ds.set i ⟨ds[i].u,ds[i].l,some (lk,0),ds[i].n1 - 1,some (lv,0),ds[i].n2 - 1,ds[i].a3,ds[i].n3⟩)))) lv ((T[i]).vals.eraseIdx s++[mkS []]):=by
  unfold js_; rw[kF (Ne.symm nvt),kH (by simpa using hlv)]
 have keep:∀ l,l≠lk→l≠lv→l≠tp→(((H.set lk (.row true tS (((T[i]).keys.eraseIdx s++[mkS []]).map GV.str))).set lv (.row true tS (((T[i]).vals.eraseIdx s++[mkS []]).map GV.str))).set tp (.row true tPg (bD_ (ds.set i ⟨ds[i].u,ds[i].l,some (lk,0),ds[i].n1 - 1,some (lv,0),ds[i].n2 - 1,ds[i].a3,ds[i].n3⟩))))[l]? =H[l]? :=fun l h1 h2 h3=>by
  rw[kF (Ne.symm h3),kF (Ne.symm h2),kF (Ne.symm h1)]
 have w:=g.wo i hi
 refine g.turn hi (by simp) (fun l _ hn ht=>keep l (fun e=>hn (by rw[e]; exact onk)) (fun e=>hn (by rw[e]; exact onv)) ht) (kH (by simpa using htp)) ?_ ?_ (fun l hl=> ?_) (fun j hj=> .inr hj)
 ·refine⟨hat.used,hat.leaf,uU_ kk (by omega) (by omega) (by omega),uU_ kv (by omega) (by omega) (by omega),⟨?_,hat.kids.len,hat.kids.lim⟩⟩;refine Eq.trans (iF_ (a:=ds[i].a3) fun l o e=>keep l (fun q=> ?_) (fun q=> ?_) (fun q=> ?_)) hat.kids.cells
  ·subst q; exact ho.d13 l 0 o k1 e
  ·subst q; exact ho.d23 l 0 o v1 e
  ·subst q; exact g.ot.off _ (kE hi) _ ⟨o,.inr (.inr e)⟩ rfl
 ·refine⟨vq_ k2 kk (by omega) (by omega) s1,vq_ v2 kv (by omega) (by omega) s2,?_,by have:=w.s1; show ds[i].n1 - 1≤1000; omega,by have:=w.s2; show ds[i].n2 - 1≤1000; omega,w.s3⟩;rcases w.t3 with h | ⟨l,o,xs,e,h1,h2,h3⟩
  ·exact .inl h
  ·refine .inr ⟨l,o,xs,e,h1,?_,h3⟩;unfold pL_;rw[keep l (fun q=> ?_) (fun q=> ?_) (fun q=> ?_)]
   ·exact h2
   ·subst q; exact ho.d13 l 0 o k1 e
   ·subst q; exact ho.d23 l 0 o v1 e
   ·subst q; exact g.ot.off _ (kE hi) _ ⟨o,.inr (.inr e)⟩ rfl
 ·have on':(ds[i]).on l:=by
   obtain⟨o,q | q | q⟩:=hl
   ·exact⟨0,.inl (by have:l=lk:=by cases q; rfl
                     rw[this]; exact k1)⟩
   ·exact⟨0,.inr (.inl (by have:l=lv:=by cases q; rfl
                           rw[this]; exact v1))⟩
   ·exact⟨o,.inr (.inr q)⟩
  exact⟨fun e=>by subst e; exact g.ot.off _ (kE hi) _ on' rfl,fun e=>by subst e; exact g.offE i hi on',g.base i hi l on',fun j hj hne=>g.ap i j hi hj (Ne.symm hne) l on'⟩
theorem CM.delInner (g:CM B H le tp ds T X) (hi:i < ds.length) (hi':i < T.length) (hx:X i) {s:Nat} (hs:s < (T[i]).keys.length) (hv:(T[i]).kids.length=(T[i]).keys.length+1) (hsm:small T[i])
 (hQ:∀ H' ds',CM B H' le tp ds' (T.set i ⟨T[i].used,T[i].leaf,T[i].keys.eraseIdx s,T[i].vals,T[i].kids.eraseIdx (s+1)⟩) (fun j=>j≠i∧X j)→Q (.tup []) H'):
 (pS (some (tp,0+i*5)) fun n119 n120=>
 rd H n119 (n120+2) fun v121=>
 dL 1 v121 fun x122 n123=>
 pS (some (tp,0+i*5)) fun n124 n125=>
 rd H n124 (n125+4) fun v126=>
 dL 1 v126 fun x127 n128=>
 cl aS_ [(.g (.sl x122 n123 1)),(.g (.int .i64 (s:Int))),(.g (.int .i64 (ac_ .i64 ((s:Int)+1))))] H fun r129 H130=>
 rG r129 fun v131=>
 dL 1 v131 fun x132 n133=>
 rd H130 n124 (n125+4) fun v134=>
 dL 1 v134 fun x135 n136=>
 eqv (.g (.sl x127 n128 1)) (.g (.sl x135 n136 1)) (cl b5_ [(.g (.sl x127 n128 1)),(.g (.int .i64 (ac_ .i64 ((s:Int)+1)))),(.g (.int .i64 (ac_ .i64 ((s:Int)+2))))] H130 fun r137 H138=>
 rG r137 fun v139=>
 dL 1 v139 fun x140 n141=>
 pS (some (tp,0+i*5)) fun n142 n143=>
 wr H138 n142 (n143+2) (.sl x132 n133 1) fun H144=>
 pS (some (tp,0+i*5)) fun n145 n146=>
 wr H144 n145 (n146+4) (.sl x140 n141 1) fun H147=>
 Q (.tup []) H147)):=by
 obtain⟨s1,s2,s3,s4,s5⟩:=hsm
 have ho:=g.own i hi hi' hx
 have hat:=g.ot.all i hi hi'
 have e1:=hat.keys.len
 have e2:=hat.kids.len
 obtain⟨lk,k1,k2,k3,k4⟩:=ko_ ho.keys (by omega)
 obtain⟨lv,v1,v2,v3,v4⟩:=ko_ ho.kids (by omega)
 have hne:lk≠lv:=fun e=>ho.d13 lk 0 0 k1 (by rw[v1,e])
 obtain⟨hb,hr⟩:=g.ot.at_row
 have htp:=(kC.1 hr).1
 have hlk:=(kC.1 k3).1
 have hlv:=(kC.1 v3).1
 have onk:(ds[i]).on lk:=⟨0,.inl k1⟩
 have onv:(ds[i]).on lv:=⟨0,.inr (.inr v1)⟩
 have nkt:lk≠tp:=fun e=>by subst e; exact g.ot.off _ (kE hi) _ onk rfl
 have nvt:lv≠tp:=fun e=>by subst e; exact g.ot.off _ (kE hi) _ onv rfl
 have g2:gt H tp (0+i*5+2)=some (.sl ds[i].a1 ds[i].n1 1):=by rw[kN]; exact g.ot.gt hi (by omega)
 have g3:gt H tp (0+i*5+4)=some (.sl ds[i].a3 ds[i].n3 1):=by rw[kN]; exact g.ot.gt hi (by omega)
 rw[af_,ad_ g2,ah_,af_,ad_ g3,ah_,an_ (by omega),k1]
 refine pE_ (xs:=(T[i]).keys) k3 (by omega) (by omega) (by omega) ?_
 simp only[aN_,ah_]
 have hr1:(H.set lk (.row true tS (((T[i]).keys.eraseIdx s++[mkS []]).map GV.str)))[tp]? =some (.row true tPg (bD_ ds)):=by rw[kF nkt]; exact hr
 have g3':gt (H.set lk (.row true tS (((T[i]).keys.eraseIdx s++[mkS []]).map GV.str))) tp (0+i*5+4)=some (.sl ds[i].a3 ds[i].n3 1):=by
  rw[bw_ hr1,kN]; exact jx_ hi (by omega)
 rw[ad_ g3',ah_]
 refine⟨rfl,?_⟩
 rw[v1,show ac_ .i64 ((s:Int)+2)=((s+1+1:Nat):Int) from cy_ (by omega) (by omega)]
 have v3':pL_ (H.set lk (.row true tS (((T[i]).keys.eraseIdx s++[mkS []]).map GV.str))) lv (T[i]).kids:=by unfold pL_; rw[kF hne]; exact v3
 refine B7_ (xs:=(T[i]).kids) (i:=s+1) v3' (by omega) (by omega) (by omega) ?_
 simp only[aN_,ah_,af_]
 refine If_ (by rw[kF nvt]; exact hr1) hi ?_
 refine hQ _ (ds.set i ⟨ds[i].u,ds[i].l,some (lk,0),ds[i].n1 - 1,ds[i].a2,ds[i].n2,some (lv,0),ds[i].n3 - 1⟩) ?_
 have kk:js_ (((H.set lk (.row true tS (((T[i]).keys.eraseIdx s++[mkS []]).map GV.str))).set lv (.row true tI (((T[i]).kids.eraseIdx (s+1)++[0]).map (GV.int .i64)))).set tp (.row true tPg (bD_ (ds.set i ⟨ds[i].u,ds[i].l,some (lk,0),ds[i].n1 - 1,ds[i].a2,ds[i].n2,some (lv,0),ds[i].n3 - 1⟩)))) lk ((T[i]).keys.eraseIdx s++[mkS []]):=by
  unfold js_; rw[kF (Ne.symm nkt),kF (Ne.symm hne),kH hlk]
 have kv:pL_ (((H.set lk (.row true tS (((T[i]).keys.eraseIdx s++[mkS []]).map GV.str))).set lv (.row true tI (((T[i]).kids.eraseIdx (s+1)++[0]).map (GV.int .i64)))).set tp (.row true tPg (bD_ (ds.set i ⟨ds[i].u,ds[i].l,some (lk,0),ds[i].n1 - 1,ds[i].a2,ds[i].n2,some (lv,0),ds[i].n3 - 1⟩)))) lv ((T[i]).kids.eraseIdx (s+1)++[0]):=by
  unfold pL_; rw[kF (Ne.symm nvt),kH (by simpa using hlv)]
 have keep:∀ l,l≠lk→l≠lv→l≠tp→(((H.set lk (.row true tS (((T[i]).keys.eraseIdx s++[mkS []]).map GV.str))).set lv (.row true tI (((T[i]).kids.eraseIdx (s+1)++[0]).map (GV.int .i64)))).set tp (.row true tPg (bD_ (ds.set i ⟨ds[i].u,ds[i].l,some (lk,0),ds[i].n1 - 1,ds[i].a2,ds[i].n2,some (lv,0),ds[i].n3 - 1⟩))))[l]? =H[l]? :=fun l h1 h2 h3=>by
  rw[kF (Ne.symm h3),kF (Ne.symm h2),kF (Ne.symm h1)]
 have w:=g.wo i hi
 refine g.turn hi (by simp) (fun l _ hn ht=>keep l (fun e=>hn (by rw[e]; exact onk)) (fun e=>hn (by rw[e]; exact onv)) ht) (kH (by simpa using htp)) ?_ ?_ (fun l hl=> ?_) (fun j hj=> .inr hj)
 ·refine⟨hat.used,hat.leaf,uU_ kk (by omega) (by omega) (by omega),⟨?_,hat.vals.len,hat.vals.lim⟩,ET_ kv (by omega) (by omega) (by omega)⟩;rw[←hat.vals.cells];refine iF_ fun l o e=>keep l (fun q=> ?_) (fun q=> ?_) (fun q=> ?_)
  ·subst q; exact ho.d12 l 0 o k1 e
  ·subst q; exact ho.d23 l o 0 e v1
  ·subst q; exact g.ot.off _ (kE hi) _ ⟨o,.inr (.inl e)⟩ rfl
 ·refine⟨vq_ k2 kk (by omega) (by omega) s1,?_,?_,by have:=w.s1; show ds[i].n1 - 1≤1000; omega,w.s2,by have:=w.s3; show ds[i].n3 - 1≤1000; omega⟩
  ·rcases w.t2 with h | ⟨l,o,xs,e,h1,h2,h3,h4⟩
   ·exact .inl h
   ·refine .inr ⟨l,o,xs,e,h1,?_,h3,h4⟩;unfold js_;rw[keep l (fun q=> ?_) (fun q=> ?_) (fun q=> ?_)]
    ·exact h2
    ·subst q; exact ho.d12 l 0 o k1 e
    ·subst q; exact ho.d23 l o 0 e v1
    ·subst q; exact g.ot.off _ (kE hi) _ ⟨o,.inr (.inl e)⟩ rfl
  ·refine .inr ⟨lv,0,_,rfl,v2,kv,?_⟩;rw[kI,length_eraseIdx,if_pos (by omega)]; simp; omega
 ·have on':(ds[i]).on l:=by
   obtain⟨o,q | q | q⟩:=hl
   ·exact⟨0,.inl (by have:l=lk:=by cases q; rfl
                     rw[this]; exact k1)⟩
   ·exact⟨o,.inr (.inl q)⟩
   ·exact⟨0,.inr (.inr (by have:l=lv:=by cases q; rfl
                           rw[this]; exact v1))⟩
  exact⟨fun e=>by subst e; exact g.ot.off _ (kE hi) _ on' rfl,fun e=>by subst e; exact g.offE i hi on',g.base i hi l on',fun j hj hne=>g.ap i j hi hj (Ne.symm hne) l on'⟩
theorem CM.setKey (g:CM B H le tp ds T X) (hi:i < ds.length) (J:i < T.length) (hx:X i) (hs:s < (T[i]).keys.length) (O:small T[i]) {k:ByteArray} (hk:k.size≤1000) {K:Hp→Prop}
 (hK:∀ H',CM B H' le tp ds (T.set i ⟨T[i].used,T[i].leaf,T[i].keys.set s k,T[i].vals,T[i].kids⟩) (fun j=>j≠i∧X j)→H'.length=H.length→(∀ l,(∀ o,ds[i].a1≠some (l,o))→H'[l]? =H[l]?)→K H'):∃ A,ds[i].a1=some (A,0)∧wr H A s (.str k) K:=by
 obtain⟨s1,s2,s3,s4,s5⟩:=O;have I:=g.own i hi J hx;have r:=g.ot.all i hi J;have e1:=r.keys.len;obtain⟨A,F,k2,k3,k4⟩:=ko_ I.keys (by omega);have ⟨hb,hr⟩:=g.ot.at_row;have hlk:=(kC.1 k3).1;have N:(ds[i]).on A:=⟨0,.inl F⟩;have Z:A≠tp:=fun e=>by subst e; exact g.ot.off _ (kE hi) _ N rfl
 refine⟨A,F,cr_ k3 (by omega) ?_⟩;rw[←List.map_set];refine hK _ ?_ (by simp) (fun l hl=>by rw[kF]; intro q; subst q; exact hl 0 F);have keep:∀ l,l≠A→(H.set A (.row true tS (((T[i]).keys.set s k).map GV.str)))[l]? =H[l]? :=fun l h=>by rw[kF (Ne.symm h)]
 have kk:js_ (H.set A (.row true tS (((T[i]).keys.set s k).map GV.str))) A ((T[i]).keys.set s k):=kH hlk;have D:ds.set i ds[i]=ds:=by simp
 have w:=g.wo i hi;have:=g.turn (p:=⟨T[i].used,T[i].leaf,T[i].keys.set s k,T[i].vals,T[i].kids⟩) (X':=fun j=>j≠i∧X j) (H':=H.set A (.row true tS (((T[i]).keys.set s k).map GV.str))) hi (by simp) (fun l _ hn _=>keep l fun e=>hn (by rw[e]; exact N)) (by rw[D,keep tp (Ne.symm Z)]; exact hr)
  ⟨r.used,r.leaf,⟨?_,by simpa using e1,r.keys.lim⟩,⟨?_,r.vals.len,r.vals.lim⟩,⟨?_,r.kids.len,r.kids.lim⟩⟩ ⟨?_,?_,?_,w.s1,w.s2,w.s3⟩
  (fun l G=>⟨fun e=>by subst e; exact g.ot.off _ (kE hi) _ G rfl,fun e=>by subst e; exact g.offE i hi G,g.base i hi l G,fun j V Y=>g.ap i j hi V (Ne.symm Y) l G⟩) (fun j V=> .inr V)
 ·rw[D] at this; exact this
 ·rw[F];simp only[cells?,kk];grind
 ·rw[←r.vals.cells];exact iF_ fun l o e=>keep l fun q=>by subst q; exact I.d12 l 0 o F e
 ·rw[←r.kids.cells];exact iF_ fun l o e=>keep l fun q=>by subst q; exact I.d13 l 0 o F e
 ·refine .inr ⟨A,0,_,F,k2,kk,by simp; omega,fun x W=> ?_⟩;rcases mem_or_eq_of_mem_set W with q | q
  ·exact s1 x q
  ·rw[q]; exact hk
 ·rcases w.t2 with h | ⟨l,o,xs,e,U,h2,h3,h4⟩
  ·exact .inl h
  ·exact .inr ⟨l,o,xs,e,U,by unfold js_; rw[keep l fun q=>by subst q; exact I.d12 l 0 o F e]; exact h2,h3,h4⟩
 ·rcases w.t3 with h | ⟨l,o,xs,e,U,h2,h3⟩
  ·exact .inl h
  ·exact .inr ⟨l,o,xs,e,U,by unfold pL_; rw[keep l fun q=>by subst q; exact I.d13 l 0 o F e]; exact h2,h3⟩
end
end Go.Am
section
namespace Go.Am
open List
section
variable {B H H':Hp} {le tp:Nat} {ds:List PC} {T:List Pg} {X:Nat→Prop} {a j x y:Nat} {p px py:Pg} {Q:Post}
theorem CM.cells (g:CM B H le tp ds T X) (hi:i < ds.length):gt H tp (0+i*5)=some (.bool ds[i].u)∧gt H tp (0+i*5+1)=some (.bool ds[i].l)∧gt H tp (0+i*5+2)=some (.sl ds[i].a1 ds[i].n1 1)∧gt H tp (0+i*5+3)=some (.sl ds[i].a2 ds[i].n2 1)∧gt H tp (0+i*5+4)=some (.sl ds[i].a3 ds[i].n3 1):=by
 rw[kN];exact⟨g.ot.gt hi (j:=0) (by omega),g.ot.gt hi (by omega),g.ot.gt hi (by omega),g.ot.gt hi (by omega),g.ot.gt hi (by omega)⟩
theorem Bt_ (G:small A) (I:small D) (J:s.size≤1000) (N:A.keys.length+D.keys.length+1≤1000) (O:A.vals.length+D.vals.length≤1000) (hi:A.kids.length+D.kids.length≤1000):small (ay_ A s D):=by
 refine⟨fun k r=> ?_,fun v F=> ?_,?_,by show (A.vals++D.vals).length≤1000; simp; omega,by show (A.kids++D.kids).length≤1000; simp; omega⟩
 ·unfold ay_ at r;cases e:A.leaf with
  | true=>
   rw[e] at r;rcases kD.1 r with q | q
   ·exact G.1 k q
   ·exact I.1 k q
  | false=>
   rw[e] at r;simp only[kD] at r;rcases r with (q | q) | q
   ·exact G.1 k q
   ·grind
   ·exact I.1 k q
 ·rcases kD.1 F with q | q
  ·exact G.2.1 v q
  ·exact I.2.1 v q
 ·unfold ay_;grind
set_option maxRecDepth 100000 in
theorem Du_ (g:CM B H le tp ds T X) (ha:a < 48) (hp:T[a]? =some p) (hXa:X a) (hl:p.kids.length=p.keys.length+1) (hj:j < p.keys.length) (hr:∀ k∈p.kids,1≤k∧k < 48) (hsm:small p)
 (ex:x=(p.kids[j]'(by omega)).toNat) (ey:y=(p.kids[j+1]'(by omega)).toNat) (hxa:x≠a) (hya:y≠a) (hxy:x≠y) (hpx:T[x]? =some px) (hpy:T[y]? =some py) (mx:fS_ px) (my:fS_ py)
 (hb: ¬ lE_ px p.keys[j] py→k2_ (ay_ px p.keys[j] py)∧2≤(ay_ px p.keys[j] py).keys.length)
 (hQ1:lE_ px p.keys[j] py→∀ H' ds',CM B H' le tp ds' (((T.set x (ay_ px p.keys[j] py)).set y noPg).set a ⟨p.used,p.leaf,p.keys.eraseIdx j,p.vals,p.kids.eraseIdx (j+1)⟩) (fun i=>i≠a∧i≠y∧i≠x∧X i)→Q (.tup []) H')
 (hQ2: ¬ lE_ px p.keys[j] py→∀ (hk:(ay_ px p.keys[j] py).keys.length / 2 < (ay_ px p.keys[j] py).keys.length) H' ds',CM B H' le tp ds' (((T.set x (hd_ (ay_ px p.keys[j] py) ((ay_ px p.keys[j] py).keys.length / 2))).set a ⟨p.used,p.leaf,p.keys.set j (ay_ px p.keys[j] py).keys[(ay_ px p.keys[j] py).keys.length / 2],p.vals,p.kids⟩).set y (gR_ (ay_ px p.keys[j] py) ((ay_ px p.keys[j] py).keys.length / 2))) (fun i=>i≠y∧i≠a∧i≠x∧X i)→Q (.tup []) H'):
 dm_ [.g (.ptr (some (le,0))),.g (.ptr (some (tp,0+a*5))),.g (.int .i64 (j:Int))] H Q:=by
 have q1:=g.ot.len;have q2:=g.ot.lenT;have hx48:x < 48:=by have:=(kC.1 hpx).1; omega
 have hy48:y < 48:=by have:=(kC.1 hpy).1; omega
 have eTa:T[a]'(by omega)=p:=(kC.1 hp).2;have eTx:T[x]'(by omega)=px:=(kC.1 hpx).2;have eTy:T[y]'(by omega)=py:=(kC.1 hpy).2;obtain⟨a0,a1,a2,a3,a4⟩:=g.cells (i:=a) (by omega);obtain⟨x0,x1,x2,x3,x4⟩:=g.cells (i:=x) (by omega);obtain⟨y0,y1,y2,y3,y4⟩:=g.cells (i:=y) (by omega);have at_a:=g.ot.all a (by omega) (by omega);have at_x:=g.ot.all x (by omega) (by omega);have at_y:=g.ot.all y (by omega) (by omega);rw[eTa] at at_a;rw[eTx] at at_x;rw[eTy] at at_y;have smx:=ji_ mx;have smy:=ji_ my;have s3:=hsm.2.2.1;have etx:tN (p.kids[j]'(by omega))=x:=ex.symm;have ety:tN (p.kids[j+1]'(by omega))=y:=ey.symm;have rx:=hr _ (kE (show j < p.kids.length by omega));have ry:=hr _ (kE (show j+1 < p.kids.length by omega));refine⟨1,?_⟩;rw[mO_,af_,ad_ a4,ah_,ae_,at_a.kids.rd j rfl (by omega),af_,ad_ a4,ah_,ae_,at_a.kids.rd (j+1) (an_ (by omega)) (by omega)];rw[af_,kQ,ad_ g.gtE,ah_,ae_];refine ab_ (by simp; omega) ?_;rw[af_,etx,cD_ x0 x1 x2 x3 x4,af_,ad_ a2,ah_,ae_,at_a.keys.rd j rfl hj,af_,kQ,ad_ g.gtE,ah_,ae_];refine ab_ (by simp; omega) ?_;rw[af_,ety,cD_ y0 y1 y2 y3 y4];refine v3_ at_x at_y (fun hn H1 p1=> ?_) (fun hc ju jl ja1 jn1 ja2 jn2 ja3 jn3 H1 p1 oj=> ?_)
 rotate_left
 ·simp only[aI_,aB_,dS_,aV_,ak_,ah_,bi_,bB_,ai_,aT_];rw[az_ (by decide)];have g1:=g.mono p1;simp only[af_,kQ];rw[ad_ g1.gtE,ah_,ad_ g1.gtE,ah_,ae_];refine ab_ (by simp; omega) ?_;have fresh:∀ m,(⟨ju,jl,ja1,jn1,ja2,jn2,ja3,jn3⟩:PC).on m→H.length≤m:=oj.fresh;have hlt:=(kC.1 g.er).1;have htp:=(kC.1 g.ot.at_row.2).1;refine g1.lay (i:=x) (c:=⟨ju,jl,ja1,jn1,ja2,jn2,ja3,jn3⟩) (p:=ay_ px p.keys[j] py) (by omega) oj.at ((oj.pc.wo oj.at (ji_ hc.2.2.2)).base g.pre.length_le) (fun l hl=> ?_) fun H2 g2 l2 k2=> ?_
  ·have:=fresh l hl;have:=g.pre.length_le;exact⟨by omega,by omega,by omega,fun i hi _ hl'=>by have:=g.ot.onlt (kE hi) hl'; omega⟩
  rw[ae_];refine ab_ (by simp; omega) ?_;refine g2.lay (i:=y) (c:=⟨false,false,none,0,none,0,none,0⟩) (p:=noPg) (by simp; omega) (G8_ _) (G0_ _ _ _) (fun l hl=>(Ed_ hl).elim) fun H3 g3 l3 k3=> ?_;have hTa:(((T.set x (ay_ px p.keys[j] py)).set y noPg)[a]'(by simp; omega))=p:=by rw[getElem_set_ne hya,getElem_set_ne hxa]; exact eTa
  refine g3.delInner (i:=a) (s:=j) (by simp; omega) (by simp; omega) ⟨Ne.symm hya,Ne.symm hxa,hXa⟩ (by rw[hTa]; exact hj) (by rw[hTa]; exact hl) (by rw[hTa]; exact hsm) fun H4 ds4 g4=> ?_;rw[hTa] at g4;exact hQ1 hc H4 ds4 g4
 ·simp only[aI_,aB_,dS_,aV_,ak_,ah_,bi_,bB_,ai_,aT_];rw[aD_ (by decide)];have g1:=g.mono p1;obtain⟨a0,a1,a2,a3,a4⟩:=g1.cells (i:=a) (by omega);obtain⟨x0,x1,x2,x3,x4⟩:=g1.cells (i:=x) (by omega);obtain⟨y0,y1,y2,y3,y4⟩:=g1.cells (i:=y) (by omega);rw[af_,kQ,ad_ g1.gtE,ah_,ae_];refine ab_ (by simp; omega) ?_;rw[af_,cD_ x0 x1 x2 x3 x4,af_,ad_ a2,ah_,ae_,(at_a.mono p1).keys.rd j rfl hj,af_,kQ,ad_ g1.gtE,ah_,ae_];refine ab_ (by simp; omega) ?_;rw[af_,cD_ y0 y1 y2 y3 y4];refine nj_ (at_x.mono p1) (at_y.mono p1) (n3_ at_x mx) (n3_ at_y my) fun bu bl ba1 bn1 ba2 bn2 ba3 bn3 H2 p2 ob=> ?_;simp only[dE_,aV_,ak_,ah_,bi_];have g2:=g1.mono p2;obtain⟨a0,a1,a2,a3,a4⟩:=g2.cells (i:=a) (by omega);rw[af_,kQ,ad_ g2.gtE,ah_,af_,ad_ a2,ah_,af_,kQ,ad_ g2.gtE,ah_];obtain⟨hf,hk2⟩:=hb hn;have eb1:=ob.at.keys.len;obtain⟨mk4,mkf⟩:=mx;obtain⟨nk4,nkf⟩:=my;have kx:=yL_ ⟨mk4,mkf⟩;have ky:=yL_ ⟨nk4,nkf⟩;have vx:px.vals.length≤4:=by
   cases e:px.leaf with
   | true=>have:=(mkf.leaf e).1; omega
   | false=>rw[(mkf.inner e).2.1]; simp
  have vy:py.vals.length≤4:=by
   cases e:py.leaf with
   | true=>have:=(nkf.leaf e).1; omega
   | false=>rw[(nkf.inner e).2.1]; simp
  have smj:small (ay_ px p.keys[j] py):=Bt_ smx smy (hsm.1 _ (kE hj)) (by omega) (by omega) (by omega);have hk:(ay_ px p.keys[j] py).keys.length / 2 < (ay_ px p.keys[j] py).keys.length:=by omega
  have ediv:ac_ .i64 (Int.tdiv (nI bn1) 2)=(((ay_ px p.keys[j] py).keys.length / 2:Nat):Int):=by
   have:Int.tdiv (nI bn1) 2=(((ay_ px p.keys[j] py).keys.length / 2:Nat):Int):=by rw[eb1]; rfl
   rw[this];have:=smj.2.2.1;exact cy_ (by omega) (by omega)
  rw[ediv];refine zF_ ob.at smj hk (fun e=>(hf.leaf e).1) (fun e=>(hf.inner e).2.2.1) fun c d H3 p3 hc hd wc wd oc od=> ?_;simp only[aI_,aB_,dS_,aV_,ak_,ah_,bi_,bB_,ax_,aT_];have g3:=g2.mono p3;obtain⟨a0,a1,a2,a3,a4⟩:=g3.cells (i:=a) (by omega);rw[kQ,ad_ g3.gtE,ah_];refine⟨rfl,?_⟩;rw[ad_ a2,ah_];refine⟨rfl,?_⟩;rw[ad_ g3.gtE,ah_];refine⟨rfl,?_⟩;rw[ae_];refine ab_ (by simp; omega) ?_;have l2:=(p1.trans p2).length_le;have hlt:=(kC.1 g2.er).1;have htp:=(kC.1 g2.ot.at_row.2).1;have hbl:=g2.pre.length_le;rw[af_];refine g3.lay (i:=x) (c:=c) (p:=hd_ (ay_ px p.keys[j] py) ((ay_ px p.keys[j] py).keys.length / 2)) (by omega) hc (wc.base hbl) (fun l hl=> ?_) fun H4 g4 l4 k4=> ?_
  ·have:=(oc l hl).1;exact⟨by omega,by omega,by omega,fun i hi _ hl'=>by have:=g2.ot.onlt (kE hi) hl'; omega⟩
  rw[ae_];refine ab_ (by simp; have:=at_a.keys.len; omega) ?_;have hTa:((T.set x (hd_ (ay_ px p.keys[j] py) ((ay_ px p.keys[j] py).keys.length / 2)))[a]'(by simp; omega))=p:=by rw[getElem_set_ne hxa]; exact eTa
  have hDa:((ds.set x c)[a]'(by simp; omega))=ds[a]'(by omega):=by rw[getElem_set_ne hxa]
  obtain⟨lk,e1,hw⟩:=g4.setKey (i:=a) (s:=j) (k:=(ay_ px p.keys[j] py).keys[(ay_ px p.keys[j] py).keys.length / 2]) (by simp; omega) (by simp; omega) ⟨Ne.symm hxa,hXa⟩ (by rw[hTa]; exact hj) (by rw[hTa]; exact hsm) (smj.1 _ (kE hk)) (K:=fun H5=>chk true
   (chk (leI 0 (p.kids[j+1]'(by omega))&&ltI (p.kids[j+1]'(by omega)) (nI 48))
    (pS (some (tp,0)) fun n301 n302=>
     wr H5 n301 (n302+((y)*5)) (.bool d.u) fun H303=>
     wr H303 n301 ((n302+((y)*5))+1) (.bool d.l) fun H304=>
     wr H304 n301 (((n302+((y)*5))+1)+1) (.sl d.a1 d.n1 1) fun H305=>
     wr H305 n301 ((((n302+((y)*5))+1)+1)+1) (.sl d.a2 d.n2 1) fun H306=>
     wr H306 n301 (((((n302+((y)*5))+1)+1)+1)+1) (.sl d.a3 d.n3 1) fun H307=>
     Q (.tup []) H307))) (fun H5 g5 l5 k5=>by
    rw[hTa] at g5
    rw[ae_]
    refine ab_ (by simp; omega) ?_
    rw[af_]
    have hl3:=p3.length_le
    rw[hDa] at k5
    have old:∀ l o,(ds[a]'(by omega)).a1=some (l,o)→l < H2.length:=fun l o e=>g2.ot.onlt (kE (by omega:a < ds.length)) ⟨o,.inl e⟩
    have same:∀ l,d.on l→H5[l]? =H3[l]? :=fun l hl=>by
     have:=od l hl;rw[k5 l (fun o e=>by have:=old l o e; omega),k4 l (by omega)]
    refine g5.lay (i:=y) (c:=d) (p:=gR_ (ay_ px p.keys[j] py) ((ay_ px p.keys[j] py).keys.length / 2)) (by simp; omega) (hd.keep same) ((wd.base hbl).keepOn same) (fun l hl=> ?_) fun H6 g6 l6 k6=>hQ2 hn hk H6 _ g6
    have hl':=od l hl
    refine⟨by omega,by omega,by omega,fun i hi hne hon=> ?_⟩
    rw[getElem_set] at hon
    by_cases e:x=i
    ·rw[if_pos e] at hon; exact (oc l hon).2 hl
    ·rw[if_neg e] at hon;have:=g2.ot.onlt (kE (by simpa using hi)) hon;omega)
  rw[hDa] at e1;rw[e1,af_];have ez:0+tN (j:Int)*1=j:=by rw[kN,Nat.mul_one]; rfl
  rw[ez];exact hw
end
end Go.Am
end
section
namespace Go.Am
open List
section
variable {B:Hp} {le tp:Nat} {key:ByteArray}
theorem Gc_ {a b:Nat}:mnI (a:Int) (b:Int)=((min a b:Nat):Int):=by simp [mnI]; split<;>omega
set_option maxRecDepth 100000 in
theorem xi_:∀ (d:Nat) {H:Hp} {ds:List PC} {T:List Pg} {X:Nat→Prop} {a:Nat} {P:List Nat} {ps:KV} {Q:Post},CM B H le tp ds T X→Sub T d a P ps→P.Nodup→(∀ i∈P,X i)→(∃ e∈ps,e.1=key)→a < 48→
 (hXQ:∀ H' ds' T' X' P',CM B H' le tp ds' T' X'→Dr2 T T' d a P P' (il_ ps key)→(∀ i,i∉P→X i→X' i)→Q (.tup []) H')→
 a5_.at d [.g (.ptr (some (le,0))),.g (.int .i64 (a:Int)),.g (.str key)] H Q
 | 0,H,ds,T,X,a,P,ps,Q,g,hS,_,_,_,_,_=>hS.elim
 | n+1,H,ds,T,X,a,P,ps,Q,g,hS,hnd,hX,hkey,ha,hQ=>by
  have q1:=g.ot.len;have q2:=g.ot.lenT;obtain⟨p,hp⟩:=hS.get;have hm:=hS.may hp;have eTa:T[a]'(by omega)=p:=(kC.1 hp).2;have at_a:=g.ot.all a (by omega) (by omega);rw[eTa] at at_a;obtain⟨a0,a1,a2,a3,a4⟩:=g.cells (i:=a) (by omega);have ea:tN (a:Int)=a:=rfl;have hsm:=ji_ hm;refine⟨1,?_⟩;rw[m9_,af_,kQ,ad_ g.gtE,ah_,ae_];refine ab_ (by simp; omega) ?_;rw[af_,ea,ad_ a1,ak_];have hlf:=at_a.leaf;cases hl:p.leaf with
  | true=>
   rw[az_ (by rw[←hlf,hl])];obtain⟨hb,hdr⟩:=DO_ hS hp hl hkey;obtain⟨hs,hk⟩:=n5_ hb;obtain⟨f1,f2,f3⟩:=hm.2.leaf hl;rw[ad_ a2,ah_];refine hG_ at_a.keys ?_;simp only[aI_,aB_,bB_,ai_,ak_,aT_];refine g.delLeaf (i:=a) (s:=ct_ p.keys key) (by omega) (by omega) (hX a hS.head) (by rw[eTa]; exact hs) (by rw[eTa]; exact f1) (by rw[eTa]; exact hsm) fun H' ds' g'=> ?_;rw[eTa] at g';exact hQ H' ds' _ _ P g' hdr fun i hi hx=>⟨fun e=>hi (by rw[e]; exact hS.head),hx⟩
  | false=>
   rw[aD_ (by rw[←hlf,hl])];obtain⟨d,PA,psA,Pi,psi,PC,psC,ed,kd⟩:=xZ_ (key:=key) hS hp hl;obtain rfl:n=d+1:=by omega
   obtain⟨f1,f2,f3,f4,f5⟩:=hm.2.inner hl;obtain⟨hin,hdel⟩:=kd.mem hkey;have hnd':=hnd;rw[kd.eP] at hnd';have n0:=nodup_cons.1 hnd';have n1:=nodup_append.1 n0.2;have n2:=nodup_append.1 n1.2.1;have hi:=kd.hi;have hm4:=hm.1;have kr:=f4 _ (kE hi);have ek:p.kids[eq_ p.keys key]=(((p.kids[eq_ p.keys key]).toNat:Nat):Int):=by omega
   have inP:∀ i∈Pi,i∈P:=fun i h=>by rw[kd.eP]; simp [h]
   have aPi:a∉Pi:=fun h=>n0.1 (by simp [h]);refine kJ_ (o:=0+a*5) a2 at_a.keys ?_;simp only[aN_,ai_];rw[ad_ a4,ah_,ae_,at_a.kids.rd _ rfl hi,ek];refine xi_ (d+1) g kd.kid.1 n2.1 (fun i h=>hX i (inP i h)) hin (by omega) ?_;intro H1 ds1 T1 X1 Pi' g1 dr hX1;have r1:=g1.ot.len;have r2:=g1.ot.lenT;have hp1:T1[a]? =some p:=by rw[dr.out a aPi]; exact hp
   have eTa1:T1[a]'(by omega)=p:=(kC.1 hp1).2;have at_a1:=g1.ot.all a (by omega) (by omega);rw[eTa1] at at_a1;obtain⟨b0,b1,b2,b3,b4⟩:=g1.cells (i:=a) (by omega);obtain⟨c0,c1,hc0,hc1,hcl,hck,hcs⟩:=dr.pages;obtain⟨c0',hc0',hc2⟩:=kd.kid.2;rw[hc0] at hc0'; cases hc0';have hk1:1≤c1.keys.length:=by omega
   have hsub:Sub T1 (d+1) (p.kids[eq_ p.keys key]).toNat Pi' (il_ psi key):=by
    rcases hcs with h | ⟨_,h,_⟩
    ·exact h
    ·rw[h] at hk1; simp at hk1
   have hkk:(p.kids[eq_ p.keys key]).toNat < 48:=by omega
   have eTk1:T1[(p.kids[eq_ p.keys key]).toNat]'(by omega)=c1:=(kC.1 hc1).2;have at_k1:=g1.ot.all (p.kids[eq_ p.keys key]).toNat (by omega) (by omega);rw[eTk1] at at_k1;obtain⟨k0,k1,k2,k3,k4⟩:=g1.cells (i:=(p.kids[eq_ p.keys key]).toNat) (by omega);have kk:=kd.glue hnd dr.out hsub dr.sub (fun e he=>FJ_ he) hc1 hk1;have Qnd:(PA++(Pi'++PC)).Nodup:=nodup_append.2 ⟨n1.1,nodup_append.2 ⟨dr.nd,n2.2.1,fun u hu v hv=>n2.2.2 u (dr.sub u hu) v hv⟩,fun u hu v hv=>n1.2.2 u hu v (by rcases kD.1 hv with z | z; simp [dr.sub v z]; simp [z])⟩;have QP:∀ i∈PA++(Pi'++PC),i∈PA++(Pi++PC):=fun i h=>by
    simp only[kD] at h ⊢;rcases h with z | z | z
    ·exact .inl z
    ·exact .inr (.inl (dr.sub i z))
    ·exact .inr (.inr z)
   have aQ:a∉PA++(Pi'++PC):=fun h=>n0.1 (QP a h);have goneQ:∀ i∈P,i≠a→i∉PA++(Pi'++PC)→T1[i]? =some noPg∧True:=fun i h hne hn=>by
    rw[kd.eP] at h;simp only[kD,not_or] at hn;rcases mem_cons.1 h with z | z
    ·exact (hne z).elim
    ·simp only[kD] at z;rcases z with z | z | z
     ·exact (hn.1 z).elim
     ·exact⟨dr.gone i z hn.2.1,trivial⟩
     ·exact (hn.2.2 z).elim
   have outP:∀ i,i∉P→T1[i]? =T[i]? :=fun i h=>dr.out i fun z=>h (inP i z);have X1a:X1 a:=hX1 a aPi (hX a hS.head);have X1o:∀ i,i∉P→X i→X1 i:=fun i h hx=>hX1 i (fun z=>h (inP i z)) hx;rw[af_,kQ,ad_ g1.gtE,ah_,ad_ b4,ah_,ae_,at_a1.kids.rd _ rfl hi,ae_];refine ab_ (by simp; omega) ?_;have etk:tN (p.kids[eq_ p.keys key])=(p.kids[eq_ p.keys key]).toNat:=rfl;rw[af_,etk,ad_ k2,ah_];have ekl:=at_k1.keys.len;by_cases hshort:c1.keys.length < 2
   ·rw[az_ (by simp; omega),ad_ b2,ah_];have eal:=at_a1.keys.len;have e1:ac_ .i64 ((nI (ds1[a]'(by omega)).n1) - 1)=((p.keys.length - 1:Nat):Int):=by
     have:(nI (ds1[a]'(by omega)).n1) - 1=((p.keys.length - 1:Nat):Int):=by rw[eal,iI_]; omega
     rw[this]; exact cy_ (by omega) (by omega)
    rw[e1,Gc_];obtain⟨j,hj,ej,hjs⟩:∃ j,∃ hj:j < p.keys.length,min (eq_ p.keys key) (p.keys.length - 1)=j∧((p.kids[eq_ p.keys key]).toNat=(p.kids[j]'(by omega)).toNat∨(p.kids[eq_ p.keys key]).toNat=(p.kids[j+1]'(by omega)).toNat):=by
     by_cases h:eq_ p.keys key < p.keys.length
     ·exact⟨eq_ p.keys key,h,by omega,.inl rfl⟩
     ·have e:eq_ p.keys key=p.keys.length - 1+1:=by omega
      refine⟨p.keys.length - 1,by omega,by omega,.inr ?_⟩;congr 1;congr 1
    have hx48:(p.kids[j]'(by omega)).toNat < 48:=by have:=f4 _ (kE (show j < p.kids.length by omega)); omega
    have hy48:(p.kids[j+1]'(by omega)).toNat < 48:=by have:=f4 _ (kE (show j+1 < p.kids.length by omega)); omega
    have hpx:T1[(p.kids[j]'(by omega)).toNat]? =some (T1[(p.kids[j]'(by omega)).toNat]'(by omega)):=kG _;have hpy:T1[(p.kids[j+1]'(by omega)).toNat]? =some (T1[(p.kids[j+1]'(by omega)).toNat]'(by omega)):=kG _;generalize hgx:T1[(p.kids[j]'(by omega)).toNat]'(by omega)=px at hpx;generalize hgy:T1[(p.kids[j+1]'(by omega)).toNat]'(by omega)=py at hpy;obtain⟨_,_,PX,psX,PY,psY,_,_,pr⟩:=u7_ kk f3 hj Qnd hjs;have mx:=pr.kx.1.may hpx;have my:=pr.ky.1.may hpy;have h11:px.keys.length=1∨py.keys.length=1:=by
     rcases hjs with z | z
     ·rw[z,hpx] at hc1; cases hc1; exact .inl (by omega)
     ·rw[z,hpy] at hc1; cases hc1; exact .inr (by omega)
    have MJ:=fun T2=>DG_ (T2:=T2) kk hm hl Qnd hj (by omega) hjs hpx hpy;obtain⟨-,hf,hcan,hxy,hxQ,hyQ,-,-⟩:=MJ T1;have hxa:(p.kids[j]'(by omega)).toNat≠a:=fun e=>aQ (by rw[←e]; exact hxQ);have hya:(p.kids[j+1]'(by omega)).toNat≠a:=fun e=>aQ (by rw[←e]; exact hyQ);have hxP:(p.kids[j]'(by omega)).toNat∈P:=by rw[kd.eP]; exact mem_cons_of_mem _ (QP _ hxQ)
    have hyP:(p.kids[j+1]'(by omega)).toNat∈P:=by rw[kd.eP]; exact mem_cons_of_mem _ (QP _ hyQ)
    have haP:a∈P:=hS.head;rw[ej];refine Du_ g1 ha hp1 X1a f3 hj f4 hsm rfl rfl hxa hya hxy hpx hpy mx my (fun hn=>⟨hf,by have:=mt hcan.2 hn; omega⟩) (fun hc H2 ds2 g2=> ?_) (fun hn hk H2 ds2 g2=> ?_)
    ·obtain⟨-,-,-,-,-,-,mj,-⟩:=MJ (((T1.set (p.kids[j]'(by omega)).toNat (ay_ px p.keys[j] py)).set (p.kids[j+1]'(by omega)).toNat noPg).set a ⟨p.used,p.leaf,p.keys.eraseIdx j,p.vals,p.kids.eraseIdx (j+1)⟩);have l1:(p.kids[j]'(by omega)).toNat < T1.length:=by omega
     have l2:(p.kids[j+1]'(by omega)).toNat < T1.length:=by omega
     have t2x:(((T1.set (p.kids[j]'(by omega)).toNat (ay_ px p.keys[j] py)).set (p.kids[j+1]'(by omega)).toNat noPg).set a ⟨p.used,p.leaf,p.keys.eraseIdx j,p.vals,p.kids.eraseIdx (j+1)⟩)[(p.kids[j]'(by omega)).toNat]? =some (ay_ px p.keys[j] py):=by
      rw[kF (Ne.symm hxa),kF (Ne.symm hxy),kH l1]
     have t2y:(((T1.set (p.kids[j]'(by omega)).toNat (ay_ px p.keys[j] py)).set (p.kids[j+1]'(by omega)).toNat noPg).set a ⟨p.used,p.leaf,p.keys.eraseIdx j,p.vals,p.kids.eraseIdx (j+1)⟩)[(p.kids[j+1]'(by omega)).toNat]? =some noPg:=by
      rw[kF (Ne.symm hya),kH (by simpa using l2)]
     have t2a:(((T1.set (p.kids[j]'(by omega)).toNat (ay_ px p.keys[j] py)).set (p.kids[j+1]'(by omega)).toNat noPg).set a ⟨p.used,p.leaf,p.keys.eraseIdx j,p.vals,p.kids.eraseIdx (j+1)⟩)[a]? =some ⟨p.used,p.leaf,p.keys.eraseIdx j,p.vals,p.kids.eraseIdx (j+1)⟩:=kH (by simp; omega);have t2o:∀ i,i≠(p.kids[j]'(by omega)).toNat→i≠(p.kids[j+1]'(by omega)).toNat→i≠a→(((T1.set (p.kids[j]'(by omega)).toNat (ay_ px p.keys[j] py)).set (p.kids[j+1]'(by omega)).toNat noPg).set a ⟨p.used,p.leaf,p.keys.eraseIdx j,p.vals,p.kids.eraseIdx (j+1)⟩)[i]? =T1[i]? :=fun i h1 h2 h3=>by
      rw[kF (Ne.symm h3),kF (Ne.symm h2),kF (Ne.symm h1)]
     obtain⟨Q',m1,m2,m3,m4⟩:=mj (hcan.1 hc) t2x fun i h h1 h2=>t2o i h1 h2 fun e=>aQ (by rw[←e]; exact h);refine hQ H2 ds2 _ _ (a::Q') g2 ⟨by simp [dr.len],fun i h=> ?_,nodup_cons.2 ⟨fun h=>aQ (m2 a h),m1⟩,fun i h=> ?_,fun i h h'=> ?_,p,_,hp,t2a,rfl,?_,?_⟩ fun i h hx=>⟨fun e=>h (by rw[e]; exact haP),fun e=>h (by rw[e]; exact hyP),fun e=>h (by rw[e]; exact hxP),X1o i h hx⟩
     ·rw[t2o i (fun e=>h (by rw[e]; exact hxP)) (fun e=>h (by rw[e]; exact hyP)) (fun e=>h (by rw[e]; exact haP))];exact outP i h
     ·rcases mem_cons.1 h with z | z
      ·rw[z]; exact haP
      ·rw[kd.eP]; exact mem_cons_of_mem _ (QP i (m2 i z))
     ·simp only[mem_cons,not_or] at h';by_cases hq:i∈PA++(Pi'++PC)
      ·rw[m3 i hq h'.2]; exact t2y
      ·rw[t2o i (fun e=>hq (by rw[e]; exact hxQ)) (fun e=>hq (by rw[e]; exact hyQ)) h'.1];exact (goneQ i h h'.1 hq).1
     ·show p.keys.length≤(p.keys.eraseIdx j).length+1;rw[length_eraseIdx,if_pos hj]; omega
     ·rw[hdel];by_cases h2:2≤p.keys.length
      ·exact .inl ⟨_,t2a,Ac_ hm hl hj h2,.inr ⟨hl,Q',rfl,m4⟩⟩
      ·have e0:p.keys.eraseIdx j=[]:=eq_nil_of_length_eq_zero (by rw[length_eraseIdx,if_pos hj]; omega);have e1:(p.kids.eraseIdx (j+1)).length=1:=by rw[length_eraseIdx,if_pos (by omega)]; omega
       obtain⟨k,hk⟩:=length_eq_one_iff.1 e1;have one:∀ {R:Nat→List Nat→KV→Prop} {ks:List Int} {ss:List ByteArray} {qs:KV},ks=[k]→ss=[]→bN_ R ks ss Q' qs→R k.toNat Q' qs:=fun h1 h2 h=>by subst h1; subst h2; exact h.2
       have hkm:=f4 k (jh_ (by rw[hk]; simp));exact .inr ⟨hl,e0,k,Q',hkm.1,hkm.2,hk,rfl,one hk e0 m4⟩
    ·obtain⟨-,-,-,-,-,-,-,mc⟩:=MJ (((T1.set (p.kids[j]'(by omega)).toNat (hd_ (ay_ px p.keys[j] py) ((ay_ px p.keys[j] py).keys.length / 2))).set a ⟨p.used,p.leaf,p.keys.set j (ay_ px p.keys[j] py).keys[(ay_ px p.keys[j] py).keys.length / 2],p.vals,p.kids⟩).set (p.kids[j+1]'(by omega)).toNat (gR_ (ay_ px p.keys[j] py) ((ay_ px p.keys[j] py).keys.length / 2)));have l1:(p.kids[j]'(by omega)).toNat < T1.length:=by omega
     have l2:(p.kids[j+1]'(by omega)).toNat < T1.length:=by omega
     have h5:5≤(ay_ px p.keys[j] py).keys.length:=by have:=mt hcan.2 hn; omega
     obtain⟨hk',-,-,hsz,mc⟩:=mc h5 h11;have t2x:=kF (l:=(T1.set (p.kids[j]'(by omega)).toNat (hd_ (ay_ px p.keys[j] py) ((ay_ px p.keys[j] py).keys.length / 2))).set a ⟨p.used,p.leaf,p.keys.set j (ay_ px p.keys[j] py).keys[(ay_ px p.keys[j] py).keys.length / 2],p.vals,p.kids⟩) (a:=gR_ (ay_ px p.keys[j] py) ((ay_ px p.keys[j] py).keys.length / 2)) (Ne.symm hxy);rw[kF (Ne.symm hxa),kH l1] at t2x;have t2y:=kH (l:=(T1.set (p.kids[j]'(by omega)).toNat (hd_ (ay_ px p.keys[j] py) ((ay_ px p.keys[j] py).keys.length / 2))).set a ⟨p.used,p.leaf,p.keys.set j (ay_ px p.keys[j] py).keys[(ay_ px p.keys[j] py).keys.length / 2],p.vals,p.kids⟩) (i:=(p.kids[j+1]'(by omega)).toNat) (a:=gR_ (ay_ px p.keys[j] py) ((ay_ px p.keys[j] py).keys.length / 2)) (by simpa using l2);have t2a:=kF (l:=(T1.set (p.kids[j]'(by omega)).toNat (hd_ (ay_ px p.keys[j] py) ((ay_ px p.keys[j] py).keys.length / 2))).set a ⟨p.used,p.leaf,p.keys.set j (ay_ px p.keys[j] py).keys[(ay_ px p.keys[j] py).keys.length / 2],p.vals,p.kids⟩) (a:=gR_ (ay_ px p.keys[j] py) ((ay_ px p.keys[j] py).keys.length / 2)) hya;rw[kH (by simp; omega)] at t2a;have t2o:∀ i,i≠(p.kids[j]'(by omega)).toNat→i≠(p.kids[j+1]'(by omega)).toNat→i≠a→(((T1.set (p.kids[j]'(by omega)).toNat (hd_ (ay_ px p.keys[j] py) ((ay_ px p.keys[j] py).keys.length / 2))).set a ⟨p.used,p.leaf,p.keys.set j (ay_ px p.keys[j] py).keys[(ay_ px p.keys[j] py).keys.length / 2],p.vals,p.kids⟩).set (p.kids[j+1]'(by omega)).toNat (gR_ (ay_ px p.keys[j] py) ((ay_ px p.keys[j] py).keys.length / 2)))[i]? =T1[i]? :=fun i h1 h2 h3=>by
      rw[kF (Ne.symm h2),kF (Ne.symm h3),kF (Ne.symm h1)]
     obtain⟨Q',m1,m2,m3,m4⟩:=mc t2x t2y fun i h h1 h2=>t2o i h1 h2 fun e=>aQ (by rw[←e]; exact h);refine hQ H2 ds2 _ _ (a::Q') g2 ⟨by simp [dr.len],fun i h=> ?_,nodup_cons.2 ⟨fun h=>aQ ((m2 a).1 h),m1⟩,fun i h=> ?_,fun i h h'=> ?_,p,_,hp,t2a,rfl,?_,.inl ?_⟩ fun i h hx=>⟨fun e=>h (by rw[e]; exact hyP),fun e=>h (by rw[e]; exact haP),fun e=>h (by rw[e]; exact hxP),X1o i h hx⟩
     ·rw[t2o i (fun e=>h (by rw[e]; exact hxP)) (fun e=>h (by rw[e]; exact hyP)) (fun e=>h (by rw[e]; exact haP))];exact outP i h
     ·rcases mem_cons.1 h with z | z
      ·rw[z]; exact haP
      ·rw[kd.eP]; exact mem_cons_of_mem _ (QP i ((m2 i).1 z))
     ·simp only[mem_cons,not_or] at h';have hq:i∉PA++(Pi'++PC):=fun z=>h'.2 ((m2 i).2 z);rw[t2o i (fun e=>hq (by rw[e]; exact hxQ)) (fun e=>hq (by rw[e]; exact hyQ)) h'.1];exact (goneQ i h h'.1 hq).1
     ·show p.keys.length≤(p.keys.set j _).length+1;simp
     ·rw[hdel];exact⟨_,t2a,DT_ hm hl hsz m4,.inr ⟨hl,Q',rfl,m3⟩⟩
   ·rw[aD_ (by simp; omega)];refine hQ H1 ds1 T1 X1 (a::(PA++(Pi'++PC))) g1 ⟨dr.len,outP,nodup_cons.2 ⟨aQ,Qnd⟩,fun i h=> ?_,fun i h h'=> ?_,p,p,hp,hp1,rfl,by omega,.inl ?_⟩ X1o
    ·rcases mem_cons.1 h with z | z
     ·rw[z]; exact hS.head
     ·rw[kd.eP]; exact mem_cons_of_mem _ (QP i z)
    ·simp only[mem_cons,not_or] at h';exact (goneQ i h h'.1 h'.2).1
    ·rw[hdel];exact⟨p,hp1,hm,.inr ⟨hl,_,rfl,kk.noShort ⟨c1,hc1,by omega⟩⟩⟩
end
end Go.Am
end
section
namespace Go.Am
open List
section
variable {H:Hp} {Q:Post} {a:Pl} {n:Nat} {T:List Pg} {cs:List Am.PC}
set_option maxRecDepth 100000 in
theorem mk_ (Y:Tr H a n cs T) (hn:n*80≤140737488351232) (hs:∀ p∈T,small p) (hQ:∀ A G H',CT H H' tPg A n G T→Q (.agg [.sl A n 5]) H'):cz_ [.agg [.sl a n 5]] H Q:=by
 have hlT:=Y.lenT;have F:∀ (f k) A G H',n - k < f→k≤n→CT H H' tPg A k G (T.take k)→cz_.l3 f none 0 A k a n (nI n) k H' Q:=by
  intro f;induction f with
  | zero=>omega
  | succ f ih=>
   intro k A G H' hf hk g;have hp:=g.pre;rw[cz_.l3_eq];by_cases W:k < n
   ·obtain⟨l,o,c,p,rfl,hc,D,r,Z,g1,g2,I,g4⟩:=(Y.mono hp).get W;have J:tN (k:Int)=k:=rfl;rw[az_ (by simp; omega),ae_];refine ab_ (by simp; omega) ?_;rw[af_,J,cD_ Z g1 g2 I g4];have V:=hs p (mem_of_getElem? D);have ⟨s1,s2,s3,s4,s5⟩:=V;have e1:=r.keys.len;have e2:=r.vals.len;have e3:=r.kids.len;refine hr_ r (by omega) fun b1 b2 b3 H2 p2 U=> ?_;simp [dE_];have N:T.take k++[p]=T.take (k+1):=by rw[take_add_one,D]; rfl
    refine g.add (d:=⟨c.u,c.l,b1,c.n1,b2,c.n2,b3,c.n3⟩) p2 U.at U.pc U.fresh (by unfold Lim; omega) fun O H3 I=> ?_;rw[N] at I;rw[an_ (by omega)];exact ih (k+1) O _ H3 (by omega) (by omega) I
   ·obtain rfl:k=n:=by omega
    rw[aD_ (by simp)];rw[take_of_length_le (by omega)] at g;exact hQ A G H' g
 refine⟨n+2,?_⟩;rw[wH_];exact F (n+1) 0 none [] H (by omega) (kP _) (CT.nil H tPg)
theorem CT.cm {B H:Hp} (g:CT B H tPg a 48 ds T) (G:∀ p∈T,small p):∃ tp,a=some (tp,0)∧CM B (H++[.row true yw_ [.sl a 48 5]]) H.length tp ds T (fun _=>True):=by
 have O:=g.ot.len;have U:=g.ot.lenT;have ⟨tp,e,J,N,_⟩:=ko_ g.ot.own (by omega);subst e;have F:H<+:H++[.row true yw_ [.sl (some (tp,0)) 48 5]]:=prefix_append _ _;have r:=g.mono F;have lt:∀ i (h:i < ds.length) l,(ds[i]).on l→l < H.length:=fun i h l A=>g.ot.onlt (kE h) A;refine⟨tp,rfl,r.pre,r.ot,fun i h=>(r.own i h (by omega)).wo (r.ot.all i h (by omega)) (G _ (kE _)),fun i h l A=> ?_,fun i h I _=>r.own i h I,r.ap,by simp,g.pre.length_le,fun i h A=>by have:=lt i h _ A; omega⟩;have D:=g.own i h (by omega);obtain⟨o,e | e | e⟩:=A
 ·exact D.keys.above e
 ·exact D.vals.above e
 ·exact D.kids.above e
end
theorem EN_ (h:Sub T d k P ps) (D:T[k]? =some p) (G:T'[0]? =some p) (N:P.Nodup) (U:∀ i∈P,i≠k→T'[i]? =T[i]?):Sub T' d 0 (0::P.tail) ps:=by
 have F:=h.may D;cases hl:p.leaf with
 | true=>
  have ⟨e,A,Y⟩:=h.leafD D hl;subst e; subst A;exact⟨p,G,F,.inl ⟨rfl,hl,rfl,Y⟩⟩
 | false=>
  have ⟨d',J,e,A,O⟩:=h.innD D hl;subst e; subst A;have V:=nodup_cons.1 N;exact⟨p,G,F,.inr ⟨hl,J,rfl,O.imp fun j Q qs I W=>I.keep fun i Z=>U i (by grind) fun e=>V.1 (by grind)⟩⟩
section
variable {B H:Hp} {le tp:Nat} {ds:List Am.PC} {T T':List Pg} {X:Nat→Prop} {d:Nat} {P P':List Nat} {ps qs:KV} {Q:Post}
set_option maxRecDepth 100000 in
theorem Dx_ (g:CM B H le tp ds T' X) (w:g9_ T d P ps) (dr:Dr2 T T' d 0 P P' qs) (hc:qs.length≤60)
 (hQ:∀ H' ds' T2 X',CM B H' le tp ds' T2 X'→(∃ d P,g9_ T2 d P qs)→Q (.tup []) H'):du_ [.g (.ptr (some (le,0)))] H Q:=by
 have q1:=g.ot.len;have q2:=g.ot.lenT;obtain⟨p,p',hp,hp',hl,hk,hcase⟩:=dr.pages;have e0:T'[0]'(by omega)=p':=(kC.1 hp').2;have at0:=g.ot.all 0 (by omega) (by omega);rw[e0] at at0;obtain⟨a0,a1,a2,a3,a4⟩:=g.cells (i:=0) (by omega);have rest:∀ (i:Nat) r,T'[i]? =some r→i∉P'→cY_ r=true:=fun i r hr hi=>by
  by_cases h:i∈P
  ·rw[dr.gone i h hi] at hr;cases hr; rfl
  ·rw[dr.out i h] at hr;exact w.rest i r hr h
 refine⟨1,?_⟩;have et0:tN 0=0:=rfl;rw[nX_,af_,kQ,ad_ g.gtE,ah_,ae_];refine ab_ (by decide) ?_;rw[af_,et0,cD_ a0 a1 a2 a3 a4];have lf:=at0.leaf;have l1:=at0.keys.len;rcases hcase with hS | ⟨hpl,hpk,k,P'',k1,k2,hkids,eP,hB⟩
 ·have hm:=hS.may hp';have fin:Q (.tup []) H:=hQ H ds T' X g ⟨d,P',by omega,hS,dr.nd,rest,hc⟩;cases e:p'.leaf with
  | true=>rw[aD_ (by rw[←lf,e]; rfl)]; exact fin
  | false=>
   have:=(hm.2.inner e).1;rw[az_ (by rw[←lf,e]; rfl),aD_ (by simp; omega)];exact fin
 ·rw[az_ (by rw[←lf,hpl]; rfl),az_ (by rw[l1,hpk]; rfl)];have hk48:k.toNat < 48:=by omega
  obtain⟨c0,c1,c2,c3,c4⟩:=g.cells (i:=k.toNat) (by omega);have hkid:p'.kids[0]'(by rw[hkids]; simp)=k:=by simp [hkids]
  have l3:=at0.kids.len;have rdk:∀ K:Int→Prop,(chk (leI 0 0&&ltI 0 (nI (ds[0]'(by omega)).n3)) (pS (ds[0]'(by omega)).a3 fun n0 n1=>rd H n0 (n1+0*1) fun v=>dI .i64 v K))=K (p'.kids[0]'(by rw[hkids]; simp)):=fun K=>at0.kids.rd 0 rfl (by rw[hkids]; simp) K;rw[af_,kQ,ad_ g.gtE,ah_,af_,ad_ g.gtE,ah_,ae_,rdk,af_,kQ,ad_ g.gtE,ah_,ae_,rdk,ae_,hkid];refine ab_ (by simp; omega) ?_;have etk:tN k=k.toNat:=rfl;rw[af_,etk,cD_ c0 c1 c2 c3 c4,ae_];refine ab_ (by decide) ?_;obtain⟨hb,hr⟩:=g.ot.at_row;have htp:=(kC.1 hr).1;rw[af_,Nat.zero_mul,kQ];have z0:(0:Nat)=0*5:=rfl;refine wr5 (i:=0) (c:=ds[k.toNat]'(by omega)) hr (by omega) ?_;rw[ae_];refine ab_ (by simp; omega) ?_;rw[af_,kN];refine wr5 (c:=⟨false,false,none,0,none,0,none,0⟩) (kH htp) (by simp; omega) ?_;rw[set_set];have hne:k.toNat≠0:=by omega
  have h1:=g.turn (i:=k.toNat) (H':=H.set tp (.row true tPg (bD_ (ds.set k.toNat ⟨false,false,none,0,none,0,none,0⟩)))) (c:=⟨false,false,none,0,none,0,none,0⟩) (p:=noPg) (X':=fun _=>False) (by omega) (by simp) (fun l _ _ hl=>by rw[kF (Ne.symm hl)]) (kH htp) (G8_ _) (G0_ _ _ _) (fun l hl=>(Ed_ hl).elim) (fun j hj=>hj.elim);have hsame:∀ l,l≠tp→(H.set tp (.row true tPg (bD_ ((ds.set k.toNat ⟨false,false,none,0,none,0,none,0⟩).set 0 (ds[k.toNat]'(by omega))))))[l]? =H[l]? :=fun l hl=>by rw[kF (Ne.symm hl)]
  have hofftp:∀ l,(ds[k.toNat]'(by omega)).on l→l≠tp:=fun l hl e=>by subst e; exact g.ot.off _ (kE (by omega)) _ hl rfl
  have h2:=h1.turn (i:=0) (H':=H.set tp (.row true tPg (bD_ ((ds.set k.toNat ⟨false,false,none,0,none,0,none,0⟩).set 0 (ds[k.toNat]'(by omega)))))) (c:=ds[k.toNat]'(by omega)) (p:=T'[k.toNat]'(by omega)) (X':=fun _=>False) (by simp; omega) (by simp) (fun l _ _ hl=>by rw[hsame l hl,kF (Ne.symm hl)]) (kH htp)
   ((g.ot.all k.toNat (by omega) (by omega)).keep fun l hl=>hsame l (hofftp l hl)) ((g.wo k.toNat (by omega)).keepOn fun l hl=>hsame l (hofftp l hl))
   (fun l hl=>⟨hofftp l hl,fun e=>by subst e; exact g.offE _ (by omega) hl,g.base _ (by omega) l hl,fun j hj hj0 hon=>by
    rw[getElem_set] at hon;by_cases e:k.toNat=j
    ·rw[if_pos e] at hon; exact Ed_ hon
    ·rw[if_neg e] at hon;simp at hj;exact g.ap k.toNat j (by omega) hj e l hl hon⟩) (fun j hj=>hj.elim)
  rw[set_comm _ _ hne] at h2;refine hQ _ _ _ _ h2 ?_;obtain⟨r,hr1,hr2⟩:=hB.2;have er:T'[k.toNat]'(by omega)=r:=(kC.1 hr1).2;have t0:((T'.set k.toNat noPg).set 0 (T'[k.toNat]'(by omega)))[0]? =some r:=by rw[kH (by simp; omega),er]
  have tk:((T'.set k.toNat noPg).set 0 (T'[k.toNat]'(by omega)))[k.toNat]? =some noPg:=by rw[kF (Ne.symm hne),kH (by omega)]
  have to:∀ i,i≠0→i≠k.toNat→((T'.set k.toNat noPg).set 0 (T'[k.toNat]'(by omega)))[i]? =T'[i]? :=fun i h h'=>by rw[kF (Ne.symm h),kF (Ne.symm h')]
  have hnd:=dr.nd;rw[eP] at hnd;have hn:=nodup_cons.1 hnd;have hS:=EN_ (T':=(T'.set k.toNat noPg).set 0 (T'[k.toNat]'(by omega))) hB.1 hr1 t0 hn.2 fun i hi hik=>to i (fun e=>hn.1 (by rw[←e]; exact hi)) hik;have htail:∀ i,i∈P''→i≠k.toNat→i∈P''.tail:=fun i hi hik=>by
   cases hr':r.leaf with
   | true=>obtain⟨_,e,_⟩:=hB.1.leafD hr1 hr'; rw[e] at hi; exact (hik (mem_singleton.1 hi)).elim
   | false=>
    obtain⟨_,P3,_,e,_⟩:=hB.1.innD hr1 hr';rw[e] at hi ⊢;rcases mem_cons.1 hi with z | z
    ·exact (hik z).elim
    ·exact z
  refine⟨_,_,by simp; omega,hS,nodup_cons.2 ⟨fun h=>hn.1 (mem_of_mem_tail h),hn.2.sublist (tail_sublist _)⟩,fun i q hq hi=> ?_,hc⟩;simp only[mem_cons,not_or] at hi;by_cases e:i=k.toNat
  ·rw[e,tk] at hq; cases hq; rfl
  ·rw[to i hi.1 e] at hq;refine rest i q hq ?_;rw[eP];intro h;rcases mem_cons.1 h with z | z
   ·exact hi.1 z
   ·exact hi.2 (htail i z e)
end
end Go.Am
end
namespace Go.Am
open List
section
variable {ps:KV} {k k':ByteArray}
theorem xA_ (x:ByteArray × ByteArray) (ps:KV) (k:ByteArray):il_ (x::ps) k=match decide (x.1=k) with | true=>ps | false=>x::il_ ps k:=rfl
theorem EW_:(il_ ps k).Sublist ps:=by
 induction ps with
 | nil=>exact Sublist.refl _
 | cons x ps r=>
  rw[xA_];cases decide (x.1=k) with
  | true=>exact sublist_cons_self _ _
  | false=>exact r.cons_cons _
theorem FY_:(il_ ps k).length≤ps.length:=EW_.length_le
theorem Dq_ (F:Asc ps):bO_ (il_ ps k) k'=match decide (k=k') with | true=>none | false=>bO_ ps k':=by
 induction ps with
 | nil=>cases decide (k=k')<;>rfl
 | cons x ps G=>
  have r:=pairwise_cons.1 F;rw[xA_];by_cases e:x.1=k
  ·rw[decide_eq_true e];by_cases q:k=k'
   ·rw[decide_eq_true q];refine gZ_ fun y A D=> ?_;have:=r.1 y A;rw[e,q,D,cA_] at this; cases this
   ·rw[decide_eq_false q,gl_,decide_eq_false (by grind)]
  ·rw[decide_eq_false e,gl_,G r.2,gl_];grind
end
def WT (H:Hp) (b hi:Nat) (a:Pl) (m:Nat):Prop:=m=0∨∃ tp cs,a=some (tp,0)∧(b≤tp∧tp < hi)∧H[tp]? =some (Obj.row true tPg (bD_ cs))∧cs.length=m∧m≤1000∧∀ c∈cs,WoS H b hi 1000 c
theorem TxS.keep (h:TxS H b hi M a n) (G:∀ l,b≤l→l < hi→H'[l]? =H[l]?):TxS H' b hi M a n:=by
 rcases h with h | ⟨l,o,D,e,A,I,F,r⟩
 ·exact .inl h
 ·exact .inr ⟨l,o,D,e,A,by grind,F,r⟩
theorem NuS.keep (h:NuS H b hi a n) (F:∀ l,b≤l→l < hi→H'[l]? =H[l]?):NuS H' b hi a n:=by
 rcases h with h | ⟨l,o,A,e,r,G,D⟩
 ·exact .inl h
 ·exact .inr ⟨l,o,A,e,r,by grind,D⟩
theorem WT.keep (h:WT H b hi a m) (A:∀ l,b≤l→l < hi→H'[l]? =H[l]?):WT H' b hi a m:=by
 rcases h with h | ⟨G,D,e,I,N,J,F,r⟩
 ·exact .inl h
 ·exact .inr ⟨G,D,e,I,by grind,J,F,fun c q=>⟨(r c q).t1.keep A,(r c q).t2.keep A,(r c q).t3.keep A,(r c q).s1,(r c q).s2,(r c q).s3⟩⟩
theorem TxR.s (h:TxR H b M a n):TxS H b H.length M a n:=by
 rcases h with h | ⟨l,o,F,e,D,r,G,A⟩
 ·exact .inl h
 ·exact .inr ⟨l,o,F,e,⟨D,(kC.1 r).1⟩,r,G,A⟩
theorem NuR.s (h:NuR H b a n):NuS H b H.length a n:=by
 rcases h with h | ⟨l,o,D,e,A,r,F⟩
 ·exact .inl h
 ·exact .inr ⟨l,o,D,e,⟨A,(kC.1 r).1⟩,r,F⟩
theorem WoP.s (h:WoP H b M c):WoS H b H.length M c:=⟨h.t1.s,h.t2.s,h.t3.s,h.s1,h.s2,h.s3⟩
theorem CM.wt {B H:Hp} (g:CM B H le tp ds T X) (r:b≤B.length):WT H b H.length (some (tp,0)) 48:=by
 have ⟨G,A⟩:=g.ot.at_row;refine .inr ⟨tp,ds,rfl,⟨by omega,(kC.1 A).1⟩,A,g.ot.len,by omega,fun c F=> ?_⟩;obtain⟨i,D,rfl⟩:=kK F;exact ((g.wo i D).base r).s
section
variable {H:Hp} {Q:Post} {x:Pl} {n:Nat} {T:List Pg} {cs:List Am.PC} {key:ByteArray}
theorem Aq_ (h:0 < aK_ T):zB_ T key=bO_ (cS_ T) key:=by unfold zB_ d3_; rw[decide_eq_true h]
end
end Go.Am
namespace Go.Am
open List
structure FR (H:Hp) (le lf n:Nat) (c0:GV) (ws rest:List Int):Prop where
 wr:H[le]? =some (.row true i4_ [c0,.sl (some (lf,0)) n 1])
 row:H[lf]? =some (.row true tI ((ws++rest).map (GV.int .i64)))
 len:ws.length=n
 lim:n≤1000
section
variable {H:Hp} {le lf n:Nat} {c0:GV} {ws rest:List Int} {Q:Post}
theorem FR.ne (h:FR H le lf n c0 ws rest):le≠lf:=fun e=>by
 have r:=h.wr;have A:=h.row;grind
theorem FR.gt (h:FR H le lf n c0 ws rest):Am.gt H le 1=some (.sl (some (lf,0)) n 1):=by rw[bw_ h.wr]; rfl
theorem FR.is (h:FR H le lf n c0 ws rest):Is H (some (lf,0)) n ws:=by
 have e:=h.len;have l:=h.lim;refine⟨?_,e.symm,by omega⟩;simp [cells?,h.row];grind
theorem FR.set (h:FR H le r n c0 ws rest) (A:ws'.length=ws.length):FR (H.set r (.row true tI ((ws'++rest).map (GV.int .i64)))) le r n c0 ws' rest:=
 ⟨by rw[kF (Ne.symm h.ne)]; exact h.wr,kH (kC.1 h.row).1,by rw[A]; exact h.len,h.lim⟩
theorem D3_ (h:FR H le lf n c0 ws rest) (hi:i < n) (r:j < n) (A:∀ b,Q (.g (.bool b)) H):dK_ [.g (.sl (some (lf,0)) n 1),.g (.int .i64 (i:Int)),.g (.int .i64 (j:Int))] H Q:=by
 have e:=h.len;refine⟨1,?_⟩;rw[oO_,ae_,h.is.rd i rfl (by omega),ae_,h.is.rd j rfl (by omega)];grind
theorem Ce_ (hi:i < ws.length):((ws++rest).map (GV.int .i64)).set i (.int .i64 x)=((ws.set i x)++rest).map (GV.int .i64):=by
 simp_all
theorem DX_ (h:FR H le D n c0 ws rest) (hi:i < n) (G:j < n) (J:∀ r,r.Perm ws→Q (.tup []) (H.set D (.row true tI ((r++rest).map (GV.int .i64))))):
 dG_ [.g (.sl (some (D,0)) n 1),.g (.int .i64 (i:Int)),.g (.int .i64 (j:Int))] H Q:=by
 have e:=h.len;have F:tN (i:Int)=i:=rfl;have I:tN (j:Int)=j:=rfl;have A:=(kC.1 h.row).1;refine⟨1,?_⟩;rw[oM_,ae_,h.is.rd j rfl (by omega),ae_,h.is.rd i rfl (by omega),ae_];refine ab_ (by simp_all) ?_;refine cr_ h.row (by simp; omega) ?_;rw[Ce_ (by omega),ae_];refine ab_ (by simp; omega) ?_;refine cr_ (kH A) (by simp; omega) ?_;rw[set_set,Ce_ (by simp; omega)];grind
theorem HD_ {j:Nat} (h:j≤1000):ac_ .i64 (Int.tdiv (ac_ .i64 ((j:Int) - 1)) 2)=(((j - 1) / 2:Nat):Int):=by
 cases j with
 | zero=>decide
 | succ j=>
  have e:((j+1:Nat)) - 1=(j:Int):=by omega
  rw[e,cy_ (n:=(j:Int)) (by omega) (by omega)];have r:Int.tdiv (j:Int) 2=((j / 2:Nat):Int):=rfl;rw[r,cy_ (by omega) (by omega)]; rfl
theorem qi_:∀ (f j:Nat) {H:Hp} {A:List Int},j < f→FR H le F n c0 A rest→j < n→(∀ r,r.Perm A→Q (.tup []) (H.set F (.row true tI ((r++rest).map (GV.int .i64)))))→f6_.l0 f (some (le,1)) (j:Int) H Q
 | 0,j,_,_,h,_,_,_=>by omega
 | f+1,j,H,A,U,h,D,I=>by
  have l:=h.lim;have stay:Q (.tup []) H:=by
   have:=I A (Perm.refl _);rwa [Eg_ h.row] at this
  rw[f6_.l0_eq,HD_ (by omega)];refine aa_ (fun _=>stay) (fun e=> ?_);have J:(j - 1) / 2 < j:=by
   have V:((j - 1) / 2)≠j:=by
    intro q;rw[ij_,q] at e;simp at e
   omega
  rw[af_,ad_ h.gt,ah_];refine D3_ h D (by omega) fun b=>aa_ (fun _=>stay) (fun _=> ?_);rw[af_,ad_ h.gt,ah_];refine DX_ h (by omega) D fun r G=>qi_ f _ (by omega) (h.set G.length_eq) (by omega) fun O N=> ?_;rw[set_set];grind
theorem GG_ (h:FR H le A n c0 ws rest) (D:j < n) (F:∀ r,r.Perm ws→Q (.tup []) (H.set A (.row true tI ((r++rest).map (GV.int .i64))))):f6_ [.g (.iface Bl_ (.ptr (some (le,1)))),.g (.int .i64 (j:Int))] H Q:=⟨j+2,qi_ (j+1) j (by omega) h D F⟩
theorem FG_ (r:Q (.g (.int .i64 (n:Int))) H):ed_ [.g (.sl a n 1)] H Q:=⟨1,r⟩
end
def FA (H:Hp) (b le:Nat) (c0:GV) (fa:Pl) (ws:List Int):Prop:=
 (fa=none∧ws=[]∧H[le]? =some (.row true i4_ [c0,.sl none 0 1]))∨∃ lf,fa=some (lf,0)∧b≤lf∧FR H le lf ws.length c0 ws []
section
variable {H:Hp} {b le:Nat} {c0:GV} {fa:Pl} {ws:List Int} {Q:Post}
theorem vO_ {x:Int} (h:FA H b le c0 fa ws) (hb:b≤H.length) (hl:ws.length < 1000) (hQ:∀ lf ws' H',ws'.Perm (ws++[x])→FA H' b le c0 (some (lf,0)) ws'→H.length≤lf→lf < H'.length→(∀ l,l < H.length→l≠le→(∀ o,fa≠some (l,o))→H'[l]? =H[l]?)→Q (.tup []) H'):
 hQ_ [.g (.iface Bl_ (.ptr (some (le,1)))),.g (.iface 3 (.int .i64 x))] H Q:=by
 have key:∀ (H1:Hp),H1.length=H.length+1→(∀ l,l < H.length→l≠le→(∀ o,fa≠some (l,o))→H1[l]? =H[l]?)→FR H1 le H.length (ws.length+1) c0 (ws++[x]) []→
  (pS (some (le,1)) fun n2 n3=>rd H1 n2 n3 fun v4=>dL 1 v4 fun x5 n6=>cl ed_ [(.g (.sl x5 n6 1))] H1 fun r7 H8=>rG r7 fun v9=>dI .i64 v9 fun i10=>cl f6_ [(.g (.iface Bl_ (.ptr (some (le,1))))),(.g (.int .i64 (ac_ .i64 (i10 - 1))))] H8 fun r11 H12=>Q (.tup []) H12):=fun H1 hlen hk h1=>by
  rw[af_,ad_ h1.gt,ah_];refine FG_ ?_;simp only[aN_,ai_];have e0:ac_ .i64 (((ws.length+1:Nat):Int) - 1)=(ws.length:Int):=by
   have:((ws.length+1:Nat):Int) - 1=(ws.length:Int):=by omega
   rw[this]; exact cy_ (by omega) (by omega)
  rw[e0];refine GG_ h1 (by omega) fun ws' hp=> ?_;have h2:=h1.set hp.length_eq;have el:ws'.length=ws.length+1:=by rw[hp.length_eq]; simp
  refine hQ H.length ws' _ hp (.inr ⟨_,rfl,hb,by rw[el]; exact h2⟩) (kO _) (by simp; omega) fun l h3 h4 h5=> ?_;rw[kF (by omega)];exact hk l h3 h4 h5
 refine⟨1,?_⟩;rw[yg_];rcases h with⟨rfl,rfl,hw⟩ | ⟨lf,rfl,hbl,hf⟩
 ·have hle:=(kC.1 hw).1;have g1:gt H le 1=some (.sl none 0 1):=by rw[bw_ hw]; rfl
  refine⟨1,?_⟩;rw[iU_,af_,ad_ g1,ah_];refine⟨rfl,?_⟩;simp only[ai_];have hw1:(H++[Obj.row true 3 [.int .i64 x]])[le]? =some (.row true i4_ [c0,.sl none 0 1]):=by rw[kM hle]; exact hw
  refine cr_ hw1 (by simp) ?_;refine key _ (by simp) (fun l h3 h4 h5=>by rw[kF (Ne.symm h4),kM h3]) ⟨kH (by simp; omega),?_,by simp,by simp⟩;rw[kF (by omega)];simp
 ·have hle:=(kC.1 hf.wr).1;have g1:=hf.gt;have hne:=hf.ne;refine⟨1,?_⟩;rw[iU_,af_,ad_ g1,ah_];refine⟨rfl,?_⟩;simp only[ai_];have hr:=hf.row;rw[append_nil] at hr;have hap:app? H 3 1 8 (some (lf,0)) ws.length [.int .i64 x] 1=some (some (H.length,0),ws.length+1,(H.set lf .dead)++[.row true 3 (ws.map (GV.int .i64)++[.int .i64 x])]):=by
   unfold app?;rw[if_pos ⟨by unfold Lim; omega,rfl⟩];simp only[hr];rw[if_pos ⟨trivial,trivial,by simp⟩]
  unfold ap;rw[hap];have hw1:((H.set lf .dead)++[Obj.row true 3 (ws.map (GV.int .i64)++[.int .i64 x])])[le]? =some (.row true i4_ [c0,.sl (some (lf,0)) ws.length 1]):=by
   rw[kM (by simpa using hle),kF (Ne.symm hne)]; exact hf.wr
  refine cr_ hw1 (by simp) ?_;refine key _ (by simp) (fun l h3 h4 h5=> ?_) ⟨kH (by simp; omega),?_,by simp,by omega⟩
  ·rw[kF (Ne.symm h4),kM (by simpa using h3),kF fun e=>h5 0 (by rw[e])]
  ·rw[kF (by omega)];simp
end
end Go.Am
